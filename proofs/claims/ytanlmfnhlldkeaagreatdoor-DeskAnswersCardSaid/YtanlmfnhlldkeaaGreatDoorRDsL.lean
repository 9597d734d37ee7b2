/-
  Contract: quietwingref5.Session.
-/
import Derived.Test.YtanlmfnhlldkeaaGreatDoorRDsK
import Derived.Test.YtanlmfnhlldkeaaGreatDoorDkRA
namespace Go.Proofs.YtanlmfnhlldkeaaGreatDoor
open Go.RowKit
set_option maxRecDepth 100000
set_option linter.unusedVariables false

theorem trim_endS (b : List UInt8) : Lib.trimSuffix (b ++ [10]) [10] = b := by
  have h : Lib.hasSuffix (b ++ [10]) [10] = true := by
    unfold Lib.hasSuffix
    rw [List.isSuffixOf_iff_suffix]
    exact List.suffix_append b [10]
  unfold Lib.trimSuffix
  rw [if_pos h]
  simp
theorem lineL_hit {a : List UInt8} (l : List UInt8) (h : 10 ∉ a) : lineL (a ++ 10 :: l) = a :: lineL l := by
  unfold lineL
  rw [linesL_at l h, List.map_cons, trim_endS]
theorem lineL_last {a : List UInt8} (h0 : a ≠ []) (h : 10 ∉ a) : lineL a = [a] := by
  unfold lineL
  rw [linesL_none h0 h, List.map_cons, List.map_nil]
  congr 1
  unfold Lib.trimSuffix
  rw [if_neg]
  intro hs
  unfold Lib.hasSuffix at hs
  rw [List.isSuffixOf_iff_suffix] at hs
  exact h (hs.mem (List.mem_singleton_self _))
theorem RDAt.new {ok : Nat → Prop} (w : World) : RDAt ok w (.agg #[.slice none 0 0, .slice none 0 0, .slice none 0 0, .slice none 0 0, .slice none 0 0, .slice none 0 0, .slice none 0 0, .string ⟨#[]⟩, .int .i64 0, .int .i64 0, .bool false]) dNew :=
  ⟨none, none, 0, 0, none, none, none, none, none, 0, 0, 0, 0, 0, 0, 0, 0, 0, 0, ⟨#[]⟩, 0, 0, rfl, ⟨IntsAt.nil, fun _ _ e => by cases e⟩, ⟨IntsAt.nil, fun _ _ e => by cases e⟩, fun T h => by cases h⟩
theorem RDAt.shape {ok : Nat → Prop} {w : World} {vs : Array Value} {D : DS} (h : RDAt ok w (.agg vs) D) : ∃ a1 m c1 a2 n c2 b1 k1 d1 b2 k2 d2 b3 k3 d3 b4 k4 d4 b5 k5 d5 ts mn ch up, vs = #[.slice a1 m c1, .slice a2 n c2, .slice b1 k1 d1, .slice b2 k2 d2, .slice b3 k3 d3, .slice b4 k4 d4, .slice b5 k5 d5, .string ts, .int .i64 mn, .int .i64 ch, .bool up] := by
  obtain ⟨a1, a2, c1, c2, b1, b2, b3, b4, b5, k1, d1, k2, d2, k3, d3, k4, d4, k5, d5, ts, mn, ch, e, -, -, -⟩ := h.is
  injection e with e
  exact ⟨a1, _, c1, a2, _, c2, b1, k1, d1, b2, k2, d2, b3, k3, d3, b4, k4, d4, b5, k5, d5, ts, mn, ch, _, e⟩
theorem RDAt.shapeV {ok : Nat → Prop} {w : World} {v : Value} {D : DS} (h : RDAt ok w v D) : ∃ a1 m c1 a2 n c2 b1 k1 d1 b2 k2 d2 b3 k3 d3 b4 k4 d4 b5 k5 d5 ts mn ch up, v = .agg #[.slice a1 m c1, .slice a2 n c2, .slice b1 k1 d1, .slice b2 k2 d2, .slice b3 k3 d3, .slice b4 k4 d4, .slice b5 k5 d5, .string ts, .int .i64 mn, .int .i64 ch, .bool up] := by
  obtain ⟨a1, a2, c1, c2, b1, b2, b3, b4, b5, k1, d1, k2, d2, k3, d3, k4, d4, k5, d5, ts, mn, ch, e, -, -, -⟩ := h.is
  exact ⟨a1, _, c1, a2, _, c2, b1, k1, d1, b2, k2, d2, b3, k3, d3, b4, k4, d4, b5, k5, d5, ts, mn, ch, _, e⟩
theorem app3_list (a b : ByteArray) : (a ++ b ++ ⟨#[10]⟩).data.toList = a.data.toList ++ b.data.toList ++ [10] := by simp
theorem app3_size (a b : ByteArray) : (a ++ b ++ ⟨#[10]⟩).size = a.size + b.size + 1 := by rw [ByteArray.size_append, ByteArray.size_append]; rfl
/-- What comes behind a line. -/
theorem line_hit {t : List UInt8} {f i : Nat} (hfi : f ≤ i) (hn : 10 ∉ (t.drop f).take (i - f)) (hi : t[i]? = some 10) : lineL (t.drop f) = (t.drop f).take (i - f) :: lineL (t.drop (i + 1)) := by
  have h1 : (t.drop f)[i - f]? = some 10 := by rw [List.getElem?_drop, show f + (i - f) = i by omega]; exact hi
  have h2 := split_atD h1
  rw [List.drop_drop, show f + (i - f + 1) = i + 1 by omega] at h2
  exact (congrArg lineL h2).trans (lineL_hit _ hn)
theorem line_last {t : List UInt8} {f i : Nat} (hfi : f < i) (hn : 10 ∉ (t.drop f).take (i - f)) (hi : t.length = i) : lineL (t.drop f) = (t.drop f).take (i - f) :: lineL (t.drop (i + 1)) := by
  have h1 : (t.drop f).take (i - f) = t.drop f := List.take_of_length_le (by rw [List.length_drop]; omega)
  rw [List.drop_of_length_le (show t.length ≤ i + 1 by omega)]
  rw [h1] at hn ⊢
  refine lineL_last (fun e => ?_) hn
  have h2 := congrArg List.length e
  rw [List.length_drop] at h2
  simp at h2
  omega
theorem dLines_cons2 (D : DS) (y : List UInt8) (r : List (List UInt8)) : (dLines D (y :: r)).2 = ((dLine D y).2 ++ [10]) ++ (dLines (dLine D y).1 r).2 := by
  rw [dLines]
  simp
set_option maxHeartbeats 16000000 in
theorem RSession_any (w : World) (s : ByteArray) : Calls Tryz.prog 22 #[.string s] w fun e w' => e = .returned (.string ⟨(dRun s.data.toList).toArray⟩) ∧ Below w.heap.size w w' := by
  unfold dRun
  rw [← ba_size]
  by_cases hs : 3000 < s.size
  · rw [if_pos hs]
    have g0 : decide ((s.size : Int) > 3000) = true := by simp; omega
    clear hs
    go_enter Tryz.func22, Tryz.ntmps22
    go_wp2_with fail
    go_ret
    exact ⟨rfl, Below.refl _ _⟩
  · rw [if_neg hs]
    have g0 : decide ((s.size : Int) > 3000) = false := by simp; omega
    have hs3 : s.size ≤ 3000 := by omega
    obtain ⟨W, hW⟩ : ∃ W, w.alloc (.cells #[.slice none 0 0, .slice none 0 0, .slice none 0 0, .slice none 0 0, .slice none 0 0, .slice none 0 0, .slice none 0 0, .string ⟨#[]⟩, .int .i64 0, .int .i64 0, .bool false] 103) = W := ⟨_, rfl⟩
    have hx0 : BoxN W w.heap.size 103 #[.slice none 0 0, .slice none 0 0, .slice none 0 0, .slice none 0 0, .slice none 0 0, .slice none 0 0, .slice none 0 0, .string ⟨#[]⟩, .int .i64 0, .int .i64 0, .bool false] := by rw [← hW]; exact BoxN.new _ _ _
    have hb0 : Below w.heap.size w W := by rw [← hW]; exact (Below.refl _ _).alloc (Nat.le_refl _) _
    have Hlen := Lib.hid (show s.data.toList.length = s.size from Array.length_toList ..)
    have Hget := Lib.hid (fun k (hk : k < s.size) => show s.data.toList[k]? = some (s[k]'hk) by rw [Array.getElem?_toList, Array.getElem?_eq_getElem hk]; rfl)
    have Hext := Lib.hid (fun f k => show (s.extract f k).data.toList = (s.data.toList.drop f).take (k - f) by rw [Lib.extract_data])
    obtain ⟨t, ht⟩ : ∃ t, s.data.toList = t := ⟨_, rfl⟩
    simp only [ht] at Hlen Hget Hext
    rw [ht]
    clear ht hs
    have HX0 := Lib.hid hx0
    have HB0 := Lib.hid hb0
    clear hx0 hb0
    go_enter Tryz.func22, Tryz.ntmps22
    go_wp2_with fail
    try rw [hW]
    clear hW
    go_loopw [4, 5, 6, 7, 8] (fun x4 x5 _ _ _ wi => ∃ (O : ByteArray) (f : Nat) (D : DS) (vs : Array Value), x4 = .string O ∧ x5 = .int .i64 (f : Int) ∧ f ≤ s.size + 1 ∧ O.size ≤ f * 2001 ∧ Hid (DOk D) ∧ Hid (BoxN wi w.heap.size 103 vs) ∧ Hid (RDAt (fun g => g ≠ w.heap.size) wi (.agg vs) D) ∧ Hid (Below w.heap.size w wi) ∧ Hid ((dLines dNew (lineL t)).2 = O.data.toList ++ (dLines D (lineL (t.drop f))).2)) (fun _ x5 _ _ _ _ => s.size + 1 - (intOf x5).toNat)
    case atStart => exact ⟨⟨#[]⟩, 0, dNew, _, rfl, rfl, Nat.zero_le _, Nat.zero_le _, Lib.hid DOk.new, HX0, Lib.hid (RDAt.new _), HB0, Lib.hid rfl⟩
    case round =>
      obtain ⟨wo, rfl⟩ : ∃ wo : World, wo = wr := ⟨_, rfl⟩
      obtain ⟨O, f, D, vs, rfl, rfl, hf, hO, HD, HX, HR, HB, HE⟩ := hrel
      obtain ⟨a1, m, c1, a2, n, c2, b1, k1, d1, b2, k2, d2, b3, k3, d3, b4, k4, d4, b5, k5, d5, ts, mn, ch, up, rfl⟩ := HR.out.shape
      by_cases hfs : f < s.size
      · have df : decide ((f : Int) < (s.size : Int)) = true := by simp; omega
        go_wp2_with fail
        go_loopw [6] (fun x6 wj => ∃ i : Nat, x6 = .int .i64 (i : Int) ∧ f ≤ i ∧ i ≤ s.size ∧ wo = wj ∧ Hid (10 ∉ (t.drop f).take (i - f))) (fun x6 _ => s.size - (intOf x6).toNat)
        case atStart => exact ⟨f, rfl, Nat.le_refl _, by omega, rfl, Lib.hid (by simp)⟩
        case round =>
          obtain ⟨i, rfl, hfi, hi, hwj, Hn⟩ := hrel
          subst hwj
          by_cases hil : i < s.size
          · have di : decide ((i : Int) < (s.size : Int)) = true := by simp; omega
            have ni0 : (0 : Int) ≤ (i : Int) := by omega
            have ni1 : (i : Int) < (s.size : Int) := by omega
            obtain ⟨x, hx⟩ : ∃ x : Nat, (s[i]'hil).toNat = x := ⟨_, rfl⟩
            by_cases hx10 : x = 10
            · subst hx10
              have HL := Lib.hid (show lineL (t.drop f) = (s.extract f i).data.toList :: lineL (t.drop (i + 1)) by
                rw [Hext.out]
                exact line_hit hfi Hn.out (by rw [Hget.out i hil, show s[i]'hil = 10 from UInt8.toNat_inj.1 hx]))
              have hline := line_len HD.out (s.extract f i).data.toList
              have Hstep := Lib.hid (show (dLines dNew (lineL t)).2 = (O.data.toList ++ (dLine D (s.extract f i).data.toList).2 ++ [10]) ++ (dLines (dLine D (s.extract f i).data.toList).1 (lineL (t.drop (i + 1)))).2 by
                rw [HE.out, HL.out, dLines_cons2]
                simp)
              have hes : (s.extract f i).size ≤ 3000 := by
                rw [ba_size, Hext.out]
                have := List.length_take_le (i - f) (t.drop f)
                omega
              have HD9 := Lib.hid (HD.out.line (s.extract f i).data.toList)
              have hkx : w.heap.size < wo.heap.size := HX.out.lt
              have CA : Hid (∀ V, Below wo.heap.size wo V → Calls Tryz.prog 46 #[.agg #[.slice a1 m c1, .slice a2 n c2, .slice b1 k1 d1, .slice b2 k2 d2, .slice b3 k3 d3, .slice b4 k4 d4, .slice b5 k5 d5, .string ts, .int .i64 mn, .int .i64 ch, .bool up], .string (s.extract f i)] V fun e w' => RDPost (fun g => (g ≠ w.heap.size ∧ g < wo.heap.size) ∨ V.heap.size ≤ g) V (dLine D (s.extract f i).data.toList) e w') := Lib.hid (fun V hV => RAnswer_any (ok := fun g => (g ≠ w.heap.size ∧ g < wo.heap.size) ∨ V.heap.size ≤ g) (fun g hg => .inr hg) HD.out (HR.out.to (fun g _ hlt => hV.block g hlt) (fun g hg ho => .inl ⟨ho, hg⟩)) (s.extract f i) hes)
              obtain ⟨r, hr⟩ : ∃ r, dLine D (s.extract f i).data.toList = r := ⟨_, rfl⟩
              rw [hr] at Hstep CA HD9 hline
              clear hr hes
              obtain ⟨S8, hS8⟩ : ∃ S8 : ByteArray, (⟨r.2.toArray⟩ : ByteArray) = S8 := ⟨_, rfl⟩
              have Hr2 := Lib.hid (show S8.data.toList = r.2 by rw [← hS8, ba_of])
              rw [← Hr2.out, ← ba_size] at hline
              have HS8 := Lib.hid hS8
              clear hS8
              have n1 : (f : Int) ≤ (i : Int) := by omega
              have n2 : (i : Int) ≤ (s.size : Int) := by omega
              obtain ⟨⟨x0, x1, x2, x3, x4, x5, x6, x7, x8, x9, x10⟩, f0, f1, f2, f3, f4, f5, f6, f7, f8, f9, f10⟩ := BoxN.st11 HX.out
              have hbA : Below wo.heap.size wo wo.drew := (Below.refl _ _).drew
              have hbB : Below wo.heap.size wo ((wo.alloc (.cells #[.slice none 0 0, .slice none 0 0, .slice none 0 0, .slice none 0 0, .slice none 0 0, .slice none 0 0, .slice none 0 0, .string ⟨#[]⟩, .int .i64 0, .int .i64 0, .bool false] 103)).drew) := ((Below.refl _ _).alloc (Nat.le_refl _) _).drew
              have hZn : BoxN ((wo.alloc (.cells #[.slice none 0 0, .slice none 0 0, .slice none 0 0, .slice none 0 0, .slice none 0 0, .slice none 0 0, .slice none 0 0, .string ⟨#[]⟩, .int .i64 0, .int .i64 0, .bool false] 103)).drew) wo.heap.size 103 #[.slice none 0 0, .slice none 0 0, .slice none 0 0, .slice none 0 0, .slice none 0 0, .slice none 0 0, .slice none 0 0, .string ⟨#[]⟩, .int .i64 0, .int .i64 0, .bool false] := (BoxN.new wo _ _).drew
              have hKeep := Lib.hid (fun V (hV : Below wo.heap.size wo V) => (⟨(hV.cell (p := ⟨w.heap.size, 0, none⟩) hkx).trans x0, (hV.cell (p := ⟨w.heap.size, 1, none⟩) hkx).trans x1, (hV.cell (p := ⟨w.heap.size, 2, none⟩) hkx).trans x2, (hV.cell (p := ⟨w.heap.size, 3, none⟩) hkx).trans x3, (hV.cell (p := ⟨w.heap.size, 4, none⟩) hkx).trans x4, (hV.cell (p := ⟨w.heap.size, 5, none⟩) hkx).trans x5, (hV.cell (p := ⟨w.heap.size, 6, none⟩) hkx).trans x6, (hV.cell (p := ⟨w.heap.size, 7, none⟩) hkx).trans x7, (hV.cell (p := ⟨w.heap.size, 8, none⟩) hkx).trans x8, (hV.cell (p := ⟨w.heap.size, 9, none⟩) hkx).trans x9, (hV.cell (p := ⟨w.heap.size, 10, none⟩) hkx).trans x10⟩ : V.cell? ⟨w.heap.size, 0, none⟩ = some (.slice a1 m c1) ∧ V.cell? ⟨w.heap.size, 1, none⟩ = some (.slice a2 n c2) ∧ V.cell? ⟨w.heap.size, 2, none⟩ = some (.slice b1 k1 d1) ∧ V.cell? ⟨w.heap.size, 3, none⟩ = some (.slice b2 k2 d2) ∧ V.cell? ⟨w.heap.size, 4, none⟩ = some (.slice b3 k3 d3) ∧ V.cell? ⟨w.heap.size, 5, none⟩ = some (.slice b4 k4 d4) ∧ V.cell? ⟨w.heap.size, 6, none⟩ = some (.slice b5 k5 d5) ∧ V.cell? ⟨w.heap.size, 7, none⟩ = some (.string ts) ∧ V.cell? ⟨w.heap.size, 8, none⟩ = some (.int .i64 mn) ∧ V.cell? ⟨w.heap.size, 9, none⟩ = some (.int .i64 ch) ∧ V.cell? ⟨w.heap.size, 10, none⟩ = some (.bool up)))
              clear Hn
              go_wp2_with fail
              go_cut [7, 8] from 12 to 38 (fun x7 x8 wx => ∃ (xc : Nat) (vs : Array Value), x7 = .pointer (some ⟨xc, 0, none⟩) ∧ x8 = .string S8 ∧ BoxN wx xc 103 vs ∧ RDAt (fun g => g ≠ w.heap.size) wx (.agg vs) r.1 ∧ Below wo.heap.size wo wx)
              case first =>
                go_region_held3 (fun V => V.cell? ⟨w.heap.size, 0, none⟩ = some (.slice a1 m c1) ∧ V.cell? ⟨w.heap.size, 1, none⟩ = some (.slice a2 n c2) ∧ V.cell? ⟨w.heap.size, 2, none⟩ = some (.slice b1 k1 d1) ∧ V.cell? ⟨w.heap.size, 3, none⟩ = some (.slice b2 k2 d2) ∧ V.cell? ⟨w.heap.size, 4, none⟩ = some (.slice b3 k3 d3) ∧ V.cell? ⟨w.heap.size, 5, none⟩ = some (.slice b4 k4 d4) ∧ V.cell? ⟨w.heap.size, 6, none⟩ = some (.slice b5 k5 d5) ∧ V.cell? ⟨w.heap.size, 7, none⟩ = some (.string ts) ∧ V.cell? ⟨w.heap.size, 8, none⟩ = some (.int .i64 mn) ∧ V.cell? ⟨w.heap.size, 9, none⟩ = some (.int .i64 ch) ∧ V.cell? ⟨w.heap.size, 10, none⟩ = some (.bool up))
                  ((refine hKeep.out _ ?_; repeat (first | with_reducible assumption | with_reducible exact hbA | with_reducible exact hbB | with_reducible refine Below.setCell ?_ (by simp) _ | with_reducible refine Below.alloc ?_ (by first | exact Nat.le_refl _ | exact Below.size (by assumption)) _ | with_reducible refine Below.drew ?_)))
                  ((go_at_call 46; with_reducible refine (CA.out _ (by first | with_reducible exact hbA | with_reducible exact hbB)).mono ?_; intro e w6 hpq; unfold RDPost at hpq; obtain ⟨⟨v', he, hR6⟩, hbv⟩ := hpq; rw [HS8.out] at he; subst he; obtain ⟨p1, m9, g1, p2, n9, g2, s1, q1, e1, s2, q2, e2, s3, q3, e3, s4, q4, e4, s5, q5, e5, us, mu, cu, u9, hv6⟩ := hR6.shapeV; subst hv6; have hb6 : Below wo.heap.size wo w6 := (by first | (with_reducible exact hbA.trans (hbv.mono hbA.size)) | (with_reducible exact hbB.trans (hbv.mono hbB.size))); try (have hz6 := BoxN.all hZn hbv; obtain ⟨⟨z0, z1, z2, z3, z4, z5, z6, z7, z8, z9, z10⟩, fz0, fz1, fz2, fz3, fz4, fz5, fz6, fz7, fz8, fz9, fz10⟩ := BoxN.st11 hz6)))
                all_goals (go_wp2_with fail; go_meet)
                · exact ⟨w6.heap.size, _, rfl, rfl, BoxN.new _ _ _, (hR6.to (w' := w6) (ok' := fun g => g ≠ w.heap.size) (fun _ _ _ => rfl) (fun g _ ho => by rcases ho with h | h; exact h.1; simp at h; omega)).below ((Below.refl _ _).alloc (Nat.le_refl _) _), hb6.alloc hb6.size _⟩
                · exact ⟨wo.heap.size, _, rfl, rfl, hz6.put11 _ _ _ _ _ _ _ _ _ _ _, hR6.to (ok' := fun g => g ≠ w.heap.size) (fun g hg _ => heap_put11 (V := w6) (g := wo.heap.size) (b := g) (.slice p1 m9 g1) (.slice p2 n9 g2) (.slice s1 q1 e1) (.slice s2 q2 e2) (.slice s3 q3 e3) (.slice s4 q4 e4) (.slice s5 q5 e5) (.string us) (.int .i64 mu) (.int .i64 cu) (.bool u9) (by rcases hg with ⟨_, h⟩ | h; omega; (simp at h; omega))) (fun g _ ho => by rcases ho with h | h; exact h.1; simp at h; omega), below_put11 hb6 (Nat.le_refl _) _ _ _ _ _ _ _ _ _ _ _⟩
              case rest =>
                obtain ⟨xc, vs, rfl, rfl, hC, hR6, hb6⟩ := hcut
                obtain ⟨wx, rfl⟩ := nameW hC
                clear CA hbA hbB hZn hKeep x0 x1 x2 x3 x4 x5 x6 x7 x8 x9 x10 f0 f1 f2 f3 f4 f5 f6 f7 f8 f9 f10
                obtain ⟨p1, m9, g1, p2, n9, g2, s1, q1, e1, s2, q2, e2, s3, q3, e3, s4, q4, e4, s5, q5, e5, us, mu, cu, u9, rfl⟩ := hR6.shape
                have hX6 := HX.out.all hb6
                have hB6 := HB.out.trans (hb6.mono HB.out.size)
                obtain ⟨⟨y0, y1, y2, y3, y4, y5, y6, y7, y8, y9, y10⟩, -⟩ := BoxN.st11 hC
                obtain ⟨⟨x0, x1, x2, x3, x4, x5, x6, x7, x8, x9, x10⟩, f0, f1, f2, f3, f4, f5, f6, f7, f8, f9, f10⟩ := BoxN.st11 hX6
                have HX8 := Lib.hid (hX6.put11 (.slice p1 m9 g1) (.slice p2 n9 g2) (.slice s1 q1 e1) (.slice s2 q2 e2) (.slice s3 q3 e3) (.slice s4 q4 e4) (.slice s5 q5 e5) (.string us) (.int .i64 mu) (.int .i64 cu) (.bool u9))
                have HR8 := Lib.hid (hR6.to (ok' := fun g => g ≠ w.heap.size) (w' := (((((((((((wx.setCell ⟨w.heap.size, 0, none⟩ (.slice p1 m9 g1)).setCell ⟨w.heap.size, 1, none⟩ (.slice p2 n9 g2)).setCell ⟨w.heap.size, 2, none⟩ (.slice s1 q1 e1)).setCell ⟨w.heap.size, 3, none⟩ (.slice s2 q2 e2)).setCell ⟨w.heap.size, 4, none⟩ (.slice s3 q3 e3)).setCell ⟨w.heap.size, 5, none⟩ (.slice s4 q4 e4)).setCell ⟨w.heap.size, 6, none⟩ (.slice s5 q5 e5)).setCell ⟨w.heap.size, 7, none⟩ (.string us)).setCell ⟨w.heap.size, 8, none⟩ (.int .i64 mu)).setCell ⟨w.heap.size, 9, none⟩ (.int .i64 cu)).setCell ⟨w.heap.size, 10, none⟩ (.bool u9))) (fun x hx _ => heap_put11 (V := wx) (g := w.heap.size) (b := x) (.slice p1 m9 g1) (.slice p2 n9 g2) (.slice s1 q1 e1) (.slice s2 q2 e2) (.slice s3 q3 e3) (.slice s4 q4 e4) (.slice s5 q5 e5) (.string us) (.int .i64 mu) (.int .i64 cu) (.bool u9) hx) (fun g _ ho => ho))
                have HB8 := Lib.hid (below_put11 hB6 (g := w.heap.size) (Nat.le_refl _) (.slice p1 m9 g1) (.slice p2 n9 g2) (.slice s1 q1 e1) (.slice s2 q2 e2) (.slice s3 q3 e3) (.slice s4 q4 e4) (.slice s5 q5 e5) (.string us) (.int .i64 mu) (.int .i64 cu) (.bool u9))
                have hl1 : ¬ 9223372036854775807 < O.size + S8.size := by omega
                have hl2 : ¬ 9223372036854775807 < O.size + S8.size + 1 := by omega
                clear hC hR6 hb6 hX6 hB6
                go_wp2_with fail
                refine ⟨⟨O ++ S8 ++ ⟨#[10]⟩, i + 1, r.1, #[.slice p1 m9 g1, .slice p2 n9 g2, .slice s1 q1 e1, .slice s2 q2 e2, .slice s3 q3 e3, .slice s4 q4 e4, .slice s5 q5 e5, .string us, .int .i64 mu, .int .i64 cu, .bool u9], ?ya, ?yb, by omega, ?yd, HD9, HX8, HR8, HB8, Lib.hid ?yc⟩, ?ye⟩
                case ya => rfl
                case yb => go_num
                case yc =>
                  rw [Hstep.out, app3_list, Hr2.out]
                case yd => rw [app3_size]; omega
                case ye => simp only [intOf]; omega
            · have dc : ((x : Int) == 10) = false := by simp; omega
              have Hn2 := Lib.hid (show 10 ∉ (t.drop f).take (i + 1 - f) by
                rw [show i + 1 - f = (i - f) + 1 by omega, List.take_add_one, List.getElem?_drop, show f + (i - f) = i by omega, Hget.out i hil]
                intro hm
                rcases List.mem_append.1 hm with h | h
                · exact Hn.out h
                · have h4 := List.mem_singleton.1 h
                  exact hx10 (by rw [← hx, ← h4]; rfl))
              go_wp2_with fail
              refine ⟨⟨i + 1, ?ya, by omega, by omega, trivial, Hn2⟩, ?ye⟩
              case ya => go_num
              case ye => simp [intOf]; omega
          · have hie : i = s.size := by omega
            have di : decide ((i : Int) < (s.size : Int)) = false := by simp; omega
            have HL := Lib.hid (show lineL (t.drop f) = (s.extract f i).data.toList :: lineL (t.drop (i + 1)) by
              rw [Hext.out]
              exact line_last (by omega) Hn.out (by rw [Hlen.out, hie]))
            have Hie := Lib.hid hie
            clear hie
            have hline := line_len HD.out (s.extract f i).data.toList
            have Hstep := Lib.hid (show (dLines dNew (lineL t)).2 = (O.data.toList ++ (dLine D (s.extract f i).data.toList).2 ++ [10]) ++ (dLines (dLine D (s.extract f i).data.toList).1 (lineL (t.drop (i + 1)))).2 by
              rw [HE.out, HL.out, dLines_cons2]
              simp)
            have hes : (s.extract f i).size ≤ 3000 := by
              rw [ba_size, Hext.out]
              have := List.length_take_le (i - f) (t.drop f)
              omega
            have HD9 := Lib.hid (HD.out.line (s.extract f i).data.toList)
            have hkx : w.heap.size < wo.heap.size := HX.out.lt
            have CA : Hid (∀ V, Below wo.heap.size wo V → Calls Tryz.prog 46 #[.agg #[.slice a1 m c1, .slice a2 n c2, .slice b1 k1 d1, .slice b2 k2 d2, .slice b3 k3 d3, .slice b4 k4 d4, .slice b5 k5 d5, .string ts, .int .i64 mn, .int .i64 ch, .bool up], .string (s.extract f i)] V fun e w' => RDPost (fun g => (g ≠ w.heap.size ∧ g < wo.heap.size) ∨ V.heap.size ≤ g) V (dLine D (s.extract f i).data.toList) e w') := Lib.hid (fun V hV => RAnswer_any (ok := fun g => (g ≠ w.heap.size ∧ g < wo.heap.size) ∨ V.heap.size ≤ g) (fun g hg => .inr hg) HD.out (HR.out.to (fun g _ hlt => hV.block g hlt) (fun g hg ho => .inl ⟨ho, hg⟩)) (s.extract f i) hes)
            obtain ⟨r, hr⟩ : ∃ r, dLine D (s.extract f i).data.toList = r := ⟨_, rfl⟩
            rw [hr] at Hstep CA HD9 hline
            clear hr hes
            obtain ⟨S8, hS8⟩ : ∃ S8 : ByteArray, (⟨r.2.toArray⟩ : ByteArray) = S8 := ⟨_, rfl⟩
            have Hr2 := Lib.hid (show S8.data.toList = r.2 by rw [← hS8, ba_of])
            rw [← Hr2.out, ← ba_size] at hline
            have HS8 := Lib.hid hS8
            clear hS8
            have n1 : (f : Int) ≤ (i : Int) := by omega
            have n2 : (i : Int) ≤ (s.size : Int) := by omega
            obtain ⟨⟨x0, x1, x2, x3, x4, x5, x6, x7, x8, x9, x10⟩, f0, f1, f2, f3, f4, f5, f6, f7, f8, f9, f10⟩ := BoxN.st11 HX.out
            have hbA : Below wo.heap.size wo wo.drew := (Below.refl _ _).drew
            have hbB : Below wo.heap.size wo ((wo.alloc (.cells #[.slice none 0 0, .slice none 0 0, .slice none 0 0, .slice none 0 0, .slice none 0 0, .slice none 0 0, .slice none 0 0, .string ⟨#[]⟩, .int .i64 0, .int .i64 0, .bool false] 103)).drew) := ((Below.refl _ _).alloc (Nat.le_refl _) _).drew
            have hZn : BoxN ((wo.alloc (.cells #[.slice none 0 0, .slice none 0 0, .slice none 0 0, .slice none 0 0, .slice none 0 0, .slice none 0 0, .slice none 0 0, .string ⟨#[]⟩, .int .i64 0, .int .i64 0, .bool false] 103)).drew) wo.heap.size 103 #[.slice none 0 0, .slice none 0 0, .slice none 0 0, .slice none 0 0, .slice none 0 0, .slice none 0 0, .slice none 0 0, .string ⟨#[]⟩, .int .i64 0, .int .i64 0, .bool false] := (BoxN.new wo _ _).drew
            have hKeep := Lib.hid (fun V (hV : Below wo.heap.size wo V) => (⟨(hV.cell (p := ⟨w.heap.size, 0, none⟩) hkx).trans x0, (hV.cell (p := ⟨w.heap.size, 1, none⟩) hkx).trans x1, (hV.cell (p := ⟨w.heap.size, 2, none⟩) hkx).trans x2, (hV.cell (p := ⟨w.heap.size, 3, none⟩) hkx).trans x3, (hV.cell (p := ⟨w.heap.size, 4, none⟩) hkx).trans x4, (hV.cell (p := ⟨w.heap.size, 5, none⟩) hkx).trans x5, (hV.cell (p := ⟨w.heap.size, 6, none⟩) hkx).trans x6, (hV.cell (p := ⟨w.heap.size, 7, none⟩) hkx).trans x7, (hV.cell (p := ⟨w.heap.size, 8, none⟩) hkx).trans x8, (hV.cell (p := ⟨w.heap.size, 9, none⟩) hkx).trans x9, (hV.cell (p := ⟨w.heap.size, 10, none⟩) hkx).trans x10⟩ : V.cell? ⟨w.heap.size, 0, none⟩ = some (.slice a1 m c1) ∧ V.cell? ⟨w.heap.size, 1, none⟩ = some (.slice a2 n c2) ∧ V.cell? ⟨w.heap.size, 2, none⟩ = some (.slice b1 k1 d1) ∧ V.cell? ⟨w.heap.size, 3, none⟩ = some (.slice b2 k2 d2) ∧ V.cell? ⟨w.heap.size, 4, none⟩ = some (.slice b3 k3 d3) ∧ V.cell? ⟨w.heap.size, 5, none⟩ = some (.slice b4 k4 d4) ∧ V.cell? ⟨w.heap.size, 6, none⟩ = some (.slice b5 k5 d5) ∧ V.cell? ⟨w.heap.size, 7, none⟩ = some (.string ts) ∧ V.cell? ⟨w.heap.size, 8, none⟩ = some (.int .i64 mn) ∧ V.cell? ⟨w.heap.size, 9, none⟩ = some (.int .i64 ch) ∧ V.cell? ⟨w.heap.size, 10, none⟩ = some (.bool up)))
            clear Hn
            go_wp2_with fail
            go_cut [7, 8] from 12 to 38 (fun x7 x8 wx => ∃ (xc : Nat) (vs : Array Value), x7 = .pointer (some ⟨xc, 0, none⟩) ∧ x8 = .string S8 ∧ BoxN wx xc 103 vs ∧ RDAt (fun g => g ≠ w.heap.size) wx (.agg vs) r.1 ∧ Below wo.heap.size wo wx)
            case first =>
              go_region_held3 (fun V => V.cell? ⟨w.heap.size, 0, none⟩ = some (.slice a1 m c1) ∧ V.cell? ⟨w.heap.size, 1, none⟩ = some (.slice a2 n c2) ∧ V.cell? ⟨w.heap.size, 2, none⟩ = some (.slice b1 k1 d1) ∧ V.cell? ⟨w.heap.size, 3, none⟩ = some (.slice b2 k2 d2) ∧ V.cell? ⟨w.heap.size, 4, none⟩ = some (.slice b3 k3 d3) ∧ V.cell? ⟨w.heap.size, 5, none⟩ = some (.slice b4 k4 d4) ∧ V.cell? ⟨w.heap.size, 6, none⟩ = some (.slice b5 k5 d5) ∧ V.cell? ⟨w.heap.size, 7, none⟩ = some (.string ts) ∧ V.cell? ⟨w.heap.size, 8, none⟩ = some (.int .i64 mn) ∧ V.cell? ⟨w.heap.size, 9, none⟩ = some (.int .i64 ch) ∧ V.cell? ⟨w.heap.size, 10, none⟩ = some (.bool up))
                ((refine hKeep.out _ ?_; repeat (first | with_reducible assumption | with_reducible exact hbA | with_reducible exact hbB | with_reducible refine Below.setCell ?_ (by simp) _ | with_reducible refine Below.alloc ?_ (by first | exact Nat.le_refl _ | exact Below.size (by assumption)) _ | with_reducible refine Below.drew ?_)))
                ((go_at_call 46; with_reducible refine (CA.out _ (by first | with_reducible exact hbA | with_reducible exact hbB)).mono ?_; intro e w6 hpq; unfold RDPost at hpq; obtain ⟨⟨v', he, hR6⟩, hbv⟩ := hpq; rw [HS8.out] at he; subst he; obtain ⟨p1, m9, g1, p2, n9, g2, s1, q1, e1, s2, q2, e2, s3, q3, e3, s4, q4, e4, s5, q5, e5, us, mu, cu, u9, hv6⟩ := hR6.shapeV; subst hv6; have hb6 : Below wo.heap.size wo w6 := (by first | (with_reducible exact hbA.trans (hbv.mono hbA.size)) | (with_reducible exact hbB.trans (hbv.mono hbB.size))); try (have hz6 := BoxN.all hZn hbv; obtain ⟨⟨z0, z1, z2, z3, z4, z5, z6, z7, z8, z9, z10⟩, fz0, fz1, fz2, fz3, fz4, fz5, fz6, fz7, fz8, fz9, fz10⟩ := BoxN.st11 hz6)))
              all_goals (go_wp2_with fail; go_meet)
              · exact ⟨w6.heap.size, _, rfl, rfl, BoxN.new _ _ _, (hR6.to (w' := w6) (ok' := fun g => g ≠ w.heap.size) (fun _ _ _ => rfl) (fun g _ ho => by rcases ho with h | h; exact h.1; simp at h; omega)).below ((Below.refl _ _).alloc (Nat.le_refl _) _), hb6.alloc hb6.size _⟩
              · exact ⟨wo.heap.size, _, rfl, rfl, hz6.put11 _ _ _ _ _ _ _ _ _ _ _, hR6.to (ok' := fun g => g ≠ w.heap.size) (fun g hg _ => heap_put11 (V := w6) (g := wo.heap.size) (b := g) (.slice p1 m9 g1) (.slice p2 n9 g2) (.slice s1 q1 e1) (.slice s2 q2 e2) (.slice s3 q3 e3) (.slice s4 q4 e4) (.slice s5 q5 e5) (.string us) (.int .i64 mu) (.int .i64 cu) (.bool u9) (by rcases hg with ⟨_, h⟩ | h; omega; (simp at h; omega))) (fun g _ ho => by rcases ho with h | h; exact h.1; simp at h; omega), below_put11 hb6 (Nat.le_refl _) _ _ _ _ _ _ _ _ _ _ _⟩
            case rest =>
              obtain ⟨xc, vs, rfl, rfl, hC, hR6, hb6⟩ := hcut
              obtain ⟨wx, rfl⟩ := nameW hC
              clear CA hbA hbB hZn hKeep x0 x1 x2 x3 x4 x5 x6 x7 x8 x9 x10 f0 f1 f2 f3 f4 f5 f6 f7 f8 f9 f10
              obtain ⟨p1, m9, g1, p2, n9, g2, s1, q1, e1, s2, q2, e2, s3, q3, e3, s4, q4, e4, s5, q5, e5, us, mu, cu, u9, rfl⟩ := hR6.shape
              have hX6 := HX.out.all hb6
              have hB6 := HB.out.trans (hb6.mono HB.out.size)
              obtain ⟨⟨y0, y1, y2, y3, y4, y5, y6, y7, y8, y9, y10⟩, -⟩ := BoxN.st11 hC
              obtain ⟨⟨x0, x1, x2, x3, x4, x5, x6, x7, x8, x9, x10⟩, f0, f1, f2, f3, f4, f5, f6, f7, f8, f9, f10⟩ := BoxN.st11 hX6
              have HX8 := Lib.hid (hX6.put11 (.slice p1 m9 g1) (.slice p2 n9 g2) (.slice s1 q1 e1) (.slice s2 q2 e2) (.slice s3 q3 e3) (.slice s4 q4 e4) (.slice s5 q5 e5) (.string us) (.int .i64 mu) (.int .i64 cu) (.bool u9))
              have HR8 := Lib.hid (hR6.to (ok' := fun g => g ≠ w.heap.size) (w' := (((((((((((wx.setCell ⟨w.heap.size, 0, none⟩ (.slice p1 m9 g1)).setCell ⟨w.heap.size, 1, none⟩ (.slice p2 n9 g2)).setCell ⟨w.heap.size, 2, none⟩ (.slice s1 q1 e1)).setCell ⟨w.heap.size, 3, none⟩ (.slice s2 q2 e2)).setCell ⟨w.heap.size, 4, none⟩ (.slice s3 q3 e3)).setCell ⟨w.heap.size, 5, none⟩ (.slice s4 q4 e4)).setCell ⟨w.heap.size, 6, none⟩ (.slice s5 q5 e5)).setCell ⟨w.heap.size, 7, none⟩ (.string us)).setCell ⟨w.heap.size, 8, none⟩ (.int .i64 mu)).setCell ⟨w.heap.size, 9, none⟩ (.int .i64 cu)).setCell ⟨w.heap.size, 10, none⟩ (.bool u9))) (fun x hx _ => heap_put11 (V := wx) (g := w.heap.size) (b := x) (.slice p1 m9 g1) (.slice p2 n9 g2) (.slice s1 q1 e1) (.slice s2 q2 e2) (.slice s3 q3 e3) (.slice s4 q4 e4) (.slice s5 q5 e5) (.string us) (.int .i64 mu) (.int .i64 cu) (.bool u9) hx) (fun g _ ho => ho))
              have HB8 := Lib.hid (below_put11 hB6 (g := w.heap.size) (Nat.le_refl _) (.slice p1 m9 g1) (.slice p2 n9 g2) (.slice s1 q1 e1) (.slice s2 q2 e2) (.slice s3 q3 e3) (.slice s4 q4 e4) (.slice s5 q5 e5) (.string us) (.int .i64 mu) (.int .i64 cu) (.bool u9))
              have hl1 : ¬ 9223372036854775807 < O.size + S8.size := by omega
              have hl2 : ¬ 9223372036854775807 < O.size + S8.size + 1 := by omega
              clear hC hR6 hb6 hX6 hB6
              go_wp2_with fail
              refine ⟨⟨O ++ S8 ++ ⟨#[10]⟩, i + 1, r.1, #[.slice p1 m9 g1, .slice p2 n9 g2, .slice s1 q1 e1, .slice s2 q2 e2, .slice s3 q3 e3, .slice s4 q4 e4, .slice s5 q5 e5, .string us, .int .i64 mu, .int .i64 cu, .bool u9], ?ya, ?yb, by omega, ?yd, HD9, HX8, HR8, HB8, Lib.hid ?yc⟩, ?ye⟩
              case ya => rfl
              case yb => go_num
              case yc =>
                rw [Hstep.out, app3_list, Hr2.out]
              case yd => rw [app3_size]; omega
              case ye => simp only [intOf]; omega
      · have df : decide ((f : Int) < (s.size : Int)) = false := by simp; omega
        have Hfin := Lib.hid (show O = ⟨(dLines dNew (lineL t)).2.toArray⟩ by
          apply ba_ext
          rw [ba_of, HE.out, List.drop_of_length_le (by rw [Hlen.out]; omega)]
          show _ = _ ++ []
          rw [List.append_nil])
        go_wp2_with fail
        go_ret
        rw [← Hfin.out]
        exact ⟨rfl, HB.out⟩
end Go.Proofs.YtanlmfnhlldkeaaGreatDoor
