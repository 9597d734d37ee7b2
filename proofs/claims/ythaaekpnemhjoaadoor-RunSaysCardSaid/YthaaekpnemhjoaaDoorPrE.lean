/-
  Contract: the document's Run.
-/
import Derived.Test.YthaaekpnemhjoaaDoorPrD
import Derived.Test.YthaaekpnemhjoaaDoorPrL
import Derived.Test.YthaaekpnemhjoaaDoorPush
import Derived.Test.YthaaekpnemhjoaaDoorRunD
import Derived.Test.YthaaekpnemhjoaaDoorLoopMarks
import Derived.Deep.LoopGhost
namespace Go.Proofs.YthaaekpnemhjoaaDoor
open Go.RowKit
set_option maxRecDepth 100000
set_option linter.unusedVariables false

theorem OwnI.lit (w : World) (k : Int) : OwnI (w.alloc (.cells #[.int .i64 k] 3)) w.heap.size (.slice (some ⟨w.heap.size, 0, none⟩) 1 1) [k] :=
  ⟨rfl, .inr ⟨w.heap.size, 1, #[.int .i64 k], rfl, Nat.le_refl _, heap_alloc_new w _, Nat.le_refl _, by decide, rfl, rfl⟩⟩
theorem OwnI.cut {w : World} {base n c : Nat} {A : Option Addr} {xs : List Int} {k : Int} (h : OwnI w base (.slice A n c) (xs ++ [k])) : OwnI w base (.slice A xs.length c) xs ∧ n = xs.length + 1 ∧ n ≤ c ∧ ∃ g, A = some ⟨g, 0, none⟩ ∧ base ≤ g ∧ w.cell? ⟨g, xs.length, none⟩ = some (.int .i64 k) := by
  obtain ⟨h1, h2⟩ := h
  rcases h2 with ⟨h0, hn⟩ | ⟨g, cap, cur, hv, hb, hg, hnc, hcm, hs, ht⟩
  · simp at hn
  · injection hv with hA hn hc
    subst hA; subst hn; subst hc
    rw [Nat.mul_one] at ht
    have hlen : (xs ++ [k]).length = xs.length + 1 := by simp
    rw [hlen] at ht hnc
    refine ⟨⟨by simp, .inr ⟨g, c, cur, rfl, hb, hg, by omega, hcm, hs, ?_⟩⟩, hlen, by omega, g, rfl, hb, ?_⟩
    · rw [Nat.mul_one]
      have := congrArg (List.take xs.length) ht
      rw [List.take_take, Nat.min_eq_left (by omega)] at this
      rw [this]
      simp
    · rw [cell_of_row w g xs.length cur _ (0, 0) hg]
      have h3 : (cur.toList.take (xs.length + 1))[xs.length]? = some (.int .i64 k) := by rw [ht]; simp
      rw [List.getElem?_take, if_pos (by omega)] at h3
      simpa using h3
theorem BoxN.grownI {w w' : World} {b base : Nat} {t : TypeId} {vs : Array Value} {v : Value} {xs : List Int} (h : BoxN w b t vs) (ho : OwnI w base v xs) (hg : w.grownBy w' v.ownBlock) (ht : t ≠ 3) : BoxN w' b t vs := by
  refine (hg.block b h.lt (fun e => ?_)).trans h
  rcases ho.2 with ⟨rfl, _⟩ | ⟨g, cap, cur, rfl, hb, hcg, _⟩
  · cases e
  · injection e with e
    subst e
    have h' : w.heap[b]? = some (.cells vs t (0, 0)) := h
    rw [hcg] at h'
    injection h' with h'
    injection h' with _ h2
    exact ht h2.symm
theorem OwnI.far {w : World} {base : Nat} {v : Value} {xs : List Int} (h : OwnI w base v xs) {a : Addr} (ha : a.block < base) (u : Value) : OwnI (w.setCell a u) base v xs := by
  refine ⟨h.1, ?_⟩
  rcases h.2 with h0 | ⟨g, cap, cur, hv, hb, hcg, r⟩
  · exact .inl h0
  · exact .inr ⟨g, cap, cur, hv, hb, (Below.heap_setCell w a u g (by omega)).trans hcg, r⟩
theorem castL_snoc (l : List Nat) (i : Nat) : castL (l ++ [i]) = castL l ++ [(i : Int)] := by simp [castL]

/-- What the document's Run tells. -/
def RRunPost (w : World) (l : Nat) (r : Option (List Nat × Nat)) (e : Ending) (w' : World) : Prop :=
  (match r with
    | none => e = .returned (.tuple #[.slice none 0 0, .int .i64 0, .bool false])
    | some (v', l') => ∃ B c', e = .returned (.tuple #[.slice B 6 c', .int .i64 (l - l' : Nat), .bool true]) ∧ IntsAt w' B (castL v')) ∧ Below w.heap.size w w'

set_option maxHeartbeats 8000000 in
theorem RRun_any {P : List Int} {n : Nat} {A : Option Addr} {c : Nat} {w : World} {v : List Nat} {Al : Option Addr} {cl : Nat} {l : Nat} {s : St} (h : NodesAt w A P n) (hL : IntsAt w Al (castL v)) (hv : Vars v) (hl5 : l ≤ 5000) (hs : IsSt P (n - 1) s) (hn1 : 1 ≤ n) (hn80 : n ≤ 80) :
    Calls Tryd.prog 19 #[.slice A n c, .slice Al 6 cl, .int .i64 l] w (RRunPost w l (s.run v l)) := by
  have hlv : (castL v).length = 6 := by rw [length_castL, hv.1]
  have hcells : CellsAt w Al ((castL v).map (.int .i64)) := hL.cells
  have hsub : (n : Int) - 1 = ((n - 1 : Nat) : Int) := by omega
  have h1n : (1 : Int) ≤ n := by omega
  go_enter Tryd.func19, Tryd.ntmps19
  go_wp2_with (at_builtin; refine wpList_append_cells rfl _ _ rfl eInts rfl (World.ownsRow_nil w w.heap.size _ 1) Al 6 cl ((castL v).map (.int .i64)) rfl hcells (by simp [hlv]) (fun u hu => by obtain ⟨x, _, rfl⟩ := List.mem_map.1 hu; rfl) (by omega) (by omega) (Nat.le_refl _) ?_; intro v' w1 hp)
  have hown0 : OwnI w1 w.heap.size v' (castL v) := by
    have := hp.own
    unfold OwnI
    rw [hlv]
    simpa using this
  have hbw1 : Below w.heap.size w w1 := hp.below (World.ownsRow_nil w w.heap.size _ 1) (Below.refl _ _) (Nat.le_refl _)
  obtain ⟨An, cn, rfl, -⟩ := hown0.form
  obtain ⟨gn, rfl, hgn, hon⟩ := OwnAt.of_owns (show w1.ownsRow w.heap.size 3 1 (.slice An (castL v).length cn) (castL v).length ((castL v).map (.int .i64)) from hown0) (by omega)
  rw [hlv]
  have hgl := hon.lt
  have hot := OwnI.lit w1 ((n - 1 : Nat) : Int)
  have hon1 := hon.alloc (.cells #[.int .i64 ((n - 1 : Nat) : Int)] 3)
  have hb1 := hbw1.alloc hbw1.size (.cells #[.int .i64 ((n - 1 : Nat) : Int)] 3)
  have hz1 : w1.heap.size ≤ (w1.alloc (.cells #[.int .i64 ((n - 1 : Nat) : Int)] 3)).heap.size := by simp
  clear hp hown0 hon hcells hL hlv
  generalize (w1.alloc (.cells #[.int .i64 ((n - 1 : Nat) : Int)] 3)) = w2 at *
  have hwB : w.heap.size ≤ w1.heap.size := hbw1.size
  generalize hB2 : w1.heap.size = B2 at *
  have hpile0 : Piled P n s.size (n - 1) [n - 1] [s] := .cons hs (by omega) (Nat.le_refl _) (by have := hs.need_le; simp; exact this) .nil
  clear hbw1 hB2
  go_loopg [10, 11] (l * (s.size + 2) + s.size + 1) (fun m td bt wr => ∃ (X : Option Addr) (k : Nat) (ids : List Nat) (ts : List St) (v1 : List Nat) (b : Nat), td = .slice X ids.length k ∧ bt = .int .i64 b ∧ b ≤ l ∧ Hid (s.run v l = runAll ts v1 (l - b)) ∧ Vars v1 ∧ Piled P n s.size (n - 1) ids ts ∧ (l - b) * (s.size + 2) + sizes ts < m ∧ OwnI wr B2 (.slice X ids.length k) (castL ids.reverse) ∧ OwnAt wr gn 3 ((castL v1).map (.int .i64)) ∧ Below w.heap.size w wr ∧ B2 ≤ wr.heap.size)
  case atStart => exact ⟨some ⟨B2, 0, none⟩, 1, [n - 1], [s], v, 0, rfl, rfl, Nat.zero_le _, Lib.hid (runAll_one s v l).symm, hv, hpile0, by simp [sizes], hot, hon1, hb1, hz1⟩
  case round =>
    clear hpile0 hot hon1 hb1 hz1
    obtain ⟨X, k, ids, ts, v1, b, rfl, rfl, hbl, hrun, hv1, hpile, hm, hot, hon, hbr, hB2⟩ := hrel
    have hgnB : gn < wr.heap.size := by omega
    cases hpile with
    | nil =>
      have hr : s.run v l = some (v1, l - b) := hrun.out
      have Hr := Lib.hid hr
      have hlb : (l - (l - b) : Nat) = b := by omega
      clear hrun hr hot
      go_wp2_with fail
      go_ret3
      rw [Hr.out]
      exact ⟨⟨some ⟨gn, 0, none⟩, cn, by rw [hlb]; rfl, hon.ints⟩, hbr⟩
    | @cons i ids' t ts' ht hi hsz hnd hpl =>
      have hot' := hot
      rw [show castL (i :: ids').reverse = castL ids'.reverse ++ [(i : Int)] by rw [List.reverse_cons, castL_snoc]] at hot'
      obtain ⟨hcut, -, hkc, gt, rfl, hgt, htop⟩ := hot'.cut
      have hrl : (castL ids'.reverse).length = ids'.length := by rw [length_castL, List.length_reverse]
      rw [hrl] at hcut htop
      have hpl2 := hpl.len
      have hil : ids'.length < 2 ^ 40 := by omega
      simp only [List.length_cons] at hkc
      obtain ⟨bb, off, rfl, p0, p1, p2, p3, p4⟩ := (h.below (B := 0) hbr).cells hi
      have Hrun := hrun
      have hszc : sizes (t :: ts') = t.size + sizes ts' := rfl
      clear hot hot' hrun
      generalize hq : ids'.length = q at *
      simp only [List.length_cons, hq]
      cases ht with
      | skip h0 =>
        rw [h0] at p0
        have hbW0 : Below wr.heap.size wr (wr.alloc (.cells #[.int .i64 5, .int .i64 (nd P i 1), .int .i64 (nd P i 2), .int .i64 (nd P i 3), .int .i64 (nd P i 4)] 66)) := (Below.refl _ _).alloc (Nat.le_refl _) _
        have hx0 := BoxN.new wr 66 #[.int .i64 5, .int .i64 (nd P i 1), .int .i64 (nd P i 2), .int .i64 (nd P i 3), .int .i64 (nd P i 4)]
        have hszW : (wr.alloc (.cells #[.int .i64 5, .int .i64 (nd P i 1), .int .i64 (nd P i 2), .int .i64 (nd P i 3), .int .i64 (nd P i 4)] 66)).heap.size = wr.heap.size + 1 := by simp
        have ho := hcut.next hbW0
        have hn := hon.all hbW0
        have hbW := hbr.trans (hbW0.mono hbr.size)
        have HT := Lib.hid hcut
        clear hcut hon
        go_upto_region 9 with fail
        generalize wr.alloc (.cells #[.int .i64 5, .int .i64 (nd P i 1), .int .i64 (nd P i 2), .int .i64 (nd P i 3), .int .i64 (nd P i 4)] 66) = W at *
        have Hsz := Lib.hid hszW
        clear hszW
        have e0 : W.cell? ⟨wr.heap.size, 0, none⟩ = some (.int .i64 5) := hx0.cell rfl
        have e1 : W.cell? ⟨wr.heap.size, 1, none⟩ = some (.int .i64 (nd P i 1)) := hx0.cell rfl
        have e2 : W.cell? ⟨wr.heap.size, 2, none⟩ = some (.int .i64 (nd P i 2)) := hx0.cell rfl
        have e3 : W.cell? ⟨wr.heap.size, 3, none⟩ = some (.int .i64 (nd P i 3)) := hx0.cell rfl
        have e4 : W.cell? ⟨wr.heap.size, 4, none⟩ = some (.int .i64 (nd P i 4)) := hx0.cell rfl
        clear p0 p1 p2 p3 p4 htop
        go_wp2_with fail
        go_roundg ((l - b) * (s.size + 2) + sizes (.skip :: ts'))
        case measure => exact hm
        case rel => exact ⟨some ⟨gt, 0, none⟩, k, ids', ts', v1, b, by rw [hq], rfl, hbl, Lib.hid (Hrun.out.trans (runAll_skip ts' v1 (l - b))), hv1, hpl, by rw [hszc]; simp [St.size], by rw [hq]; exact ho, hn, hbW, by have := Hsz.out; omega⟩
      | @both _ a b' x y h0 h2 h3 la lb hx hy =>
        rw [h0] at p0
        rw [h2] at p2
        rw [h3] at p3
        have hbW0 : Below wr.heap.size wr (wr.alloc (.cells #[.int .i64 7, .int .i64 (nd P i 1), .int .i64 a, .int .i64 b', .int .i64 (nd P i 4)] 66)) := (Below.refl _ _).alloc (Nat.le_refl _) _
        have hx0 := BoxN.new wr 66 #[.int .i64 7, .int .i64 (nd P i 1), .int .i64 a, .int .i64 b', .int .i64 (nd P i 4)]
        have hszW : (wr.alloc (.cells #[.int .i64 7, .int .i64 (nd P i 1), .int .i64 a, .int .i64 b', .int .i64 (nd P i 4)] 66)).heap.size = wr.heap.size + 1 := by simp
        have ho := hcut.next hbW0
        have hn := hon.all hbW0
        have hbW := hbr.trans (hbW0.mono hbr.size)
        have HT := Lib.hid hcut
        clear hcut hon
        go_upto_region 9 with fail
        generalize wr.alloc (.cells #[.int .i64 7, .int .i64 (nd P i 1), .int .i64 a, .int .i64 b', .int .i64 (nd P i 4)] 66) = W at *
        have Hsz := Lib.hid hszW
        clear hszW
        have e0 : W.cell? ⟨wr.heap.size, 0, none⟩ = some (.int .i64 7) := hx0.cell rfl
        have e1 : W.cell? ⟨wr.heap.size, 1, none⟩ = some (.int .i64 (nd P i 1)) := hx0.cell rfl
        have e2 : W.cell? ⟨wr.heap.size, 2, none⟩ = some (.int .i64 a) := hx0.cell rfl
        have e3 : W.cell? ⟨wr.heap.size, 3, none⟩ = some (.int .i64 b') := hx0.cell rfl
        have e4 : W.cell? ⟨wr.heap.size, 4, none⟩ = some (.int .i64 (nd P i 4)) := hx0.cell rfl
        clear p0 p1 p2 p3 p4 htop
        have hl1 : (castL ids'.reverse).length < 2 ^ 40 := by rw [hrl]; omega
        go_wp2_with (first | (at_builtin; refine wpList_push_int rfl _ _ rfl rfl (ho.next ((Below.refl _ _).alloc (Nat.le_refl _) _)) _ (b' : Int) rfl (cell_of_row _ _ 0 _ _ _ (heap_alloc_new _ _)) hl1 (by have := Hsz.out; simp; omega) ?_; intro u1 w3 hown_w3 hgr_w3 hblk_w3 hbl_w3; (have hlen1 : (castL ids'.reverse ++ [(b' : Int)]).length = q + 1 := by simp [hrl]); obtain ⟨A1, k1, rfl, -⟩ := hown_w3.form; rw [hlen1] at hown_w3; (try rw [hlen1]); (have hb3 := hbl_w3 W ((Below.refl _ _).alloc (by have := Hsz.out; omega) _)); (have hx3 := (hx0.alloc (.cells #[.int .i64 (b' : Nat)] 3)).grownI (ho.next ((Below.refl _ _).alloc (Nat.le_refl _) _)) hgr_w3 (by decide)); (have e23 : w3.cell? ⟨wr.heap.size, 2, none⟩ = some (.int .i64 (a : Nat)) := hx3.cell rfl); (have e03 : w3.cell? ⟨wr.heap.size, 0, none⟩ = some (.int .i64 7) := hx3.cell rfl); (have hs3 : wr.heap.size + 1 ≤ w3.heap.size := Nat.le_trans (Nat.le_of_eq Hsz.out.symm) hb3.size); (have hl2 : (castL ids'.reverse ++ [(b' : Int)]).length < 2 ^ 40 := by rw [hlen1]; omega); (have hn3 := hn.below hb3 (by omega)); (have hbr3 := hbW.trans (hb3.mono hwB))) | (at_builtin; refine wpList_push_int rfl _ _ rfl rfl (hown_w3.next ((Below.refl _ _).alloc (Nat.le_refl _) _)) _ (a : Int) rfl (cell_of_row _ _ 0 _ _ _ (heap_alloc_new _ _)) hl2 (by simp; omega) ?_; intro u2 w4 hown_w4 hgr_w4 hblk_w4 hbl_w4; (have hlen2 : (castL ids'.reverse ++ [(b' : Int)] ++ [(a : Int)]).length = q + 2 := by simp [hrl]); obtain ⟨A2, k2, rfl, -⟩ := hown_w4.form; rw [hlen2] at hown_w4; (try rw [hlen2]); (have hb4 := hbl_w4 w3 ((Below.refl _ _).alloc (by omega) _)); (have hx4 := (hx3.alloc (.cells #[.int .i64 (a : Nat)] 3)).grownI (hown_w3.next ((Below.refl _ _).alloc (Nat.le_refl _) _)) hgr_w4 (by decide)); (have e04 : w4.cell? ⟨wr.heap.size, 0, none⟩ = some (.int .i64 7) := hx4.cell rfl); (have hs4 := hb4.size); (have hn4 := hn3.below hb4 (by omega)); (have hbr4 := hbr3.trans (hb4.mono hwB))))
        go_roundg ((l - b) * (s.size + 2) + sizes (.both x y :: ts'))
        case measure => exact hm
        case rel =>
          have hsz' : 1 + x.size + y.size ≤ s.size := hsz
          have hnd' : max (1 + x.need) y.need + q ≤ n - 1 := hnd
          exact ⟨A2, k2, a :: b' :: ids', x :: y :: ts', v1, b, by simp [hq], rfl, hbl, Lib.hid (Hrun.out.trans (runAll_both x y ts' v1 (l - b))), hv1,
            .cons hx (by omega) (by omega) (by simp only [List.length_cons]; omega) (.cons hy (by omega) (by omega) (by omega) hpl), by rw [hszc]; show _ + (x.size + (y.size + sizes ts')) < _ + (1 + x.size + y.size + sizes ts'); omega,
            by rw [show (a :: b' :: ids').length = q + 2 by simp [hq], show castL (a :: b' :: ids').reverse = castL ids'.reverse ++ [(b' : Int)] ++ [(a : Int)] by simp [castL]]; exact hown_w4, hn4, hbr4, by omega⟩
      | @set _ m a x h0 h1 h6 h2 la hx =>
        rw [h0] at p0
        rw [h1] at p1
        rw [h2] at p2
        have hbW0 : Below wr.heap.size wr (wr.alloc (.cells #[.int .i64 6, .int .i64 m, .int .i64 a, .int .i64 (nd P i 3), .int .i64 (nd P i 4)] 66)) := (Below.refl _ _).alloc (Nat.le_refl _) _
        have hx0 := BoxN.new wr 66 #[.int .i64 6, .int .i64 m, .int .i64 a, .int .i64 (nd P i 3), .int .i64 (nd P i 4)]
        have hszW : (wr.alloc (.cells #[.int .i64 6, .int .i64 m, .int .i64 a, .int .i64 (nd P i 3), .int .i64 (nd P i 4)] 66)).heap.size = wr.heap.size + 1 := by simp
        have ho := hcut.next hbW0
        have hn := hon.all hbW0
        have hbW := hbr.trans (hbW0.mono hbr.size)
        have HT := Lib.hid hcut
        clear hcut hon
        go_upto_region 9 with fail
        generalize wr.alloc (.cells #[.int .i64 6, .int .i64 m, .int .i64 a, .int .i64 (nd P i 3), .int .i64 (nd P i 4)] 66) = W at *
        have Hsz := Lib.hid hszW
        clear hszW
        have e0 : W.cell? ⟨wr.heap.size, 0, none⟩ = some (.int .i64 6) := hx0.cell rfl
        have e1 : W.cell? ⟨wr.heap.size, 1, none⟩ = some (.int .i64 m) := hx0.cell rfl
        have e2 : W.cell? ⟨wr.heap.size, 2, none⟩ = some (.int .i64 a) := hx0.cell rfl
        have e3 : W.cell? ⟨wr.heap.size, 3, none⟩ = some (.int .i64 (nd P i 3)) := hx0.cell rfl
        have e4 : W.cell? ⟨wr.heap.size, 4, none⟩ = some (.int .i64 (nd P i 4)) := hx0.cell rfl
        clear p0 p1 p2 p3 p4 htop
        by_cases hbl0 : b = l
        · subst hbl0
          have hr : s.run v b = none := by rw [Hrun.out, Nat.sub_self]; exact runAll_zero (.inl ⟨_, _, rfl⟩) ts' v1
          have Hr := Lib.hid hr
          clear hr Hrun
          go_wp2_with fail
          go_ret3
          rw [Hr.out]
          exact ⟨rfl, hbW⟩
        have hbl1 : ¬ ((b : Int) = l) := by omega
        have hn0 : l - b ≠ 0 := by omega
        have hlb1 : l - (b + 1) = l - b - 1 := by omega
        have hmu : (l - b) * (s.size + 2) = (l - b - 1) * (s.size + 2) + (s.size + 2) := by
          obtain ⟨d, hd⟩ : ∃ d, l - b = d + 1 := ⟨l - b - 1, by omega⟩
          rw [hd, Nat.add_sub_cancel, Nat.succ_mul]
        have hcb : ((b + 1 : Nat) : Int) = (b : Int) + 1 := by omega
        have HV := RValue_any (c := c) (cv := cn) hv1 hx (by omega) W (h.below (B := 0) hbW) hn
        go_wp2_with fail
        refine HV.mono ?_
        rintro e w3 ⟨rfl, hb3⟩
        have hx3 := hx0.all hb3
        have ho3 := ho.next hb3
        have hn3 := hn.all hb3
        have hbr3 := hbW.trans (hb3.mono hbW.size)
        have hs3 : wr.heap.size + 1 ≤ w3.heap.size := by have h1 := hb3.size; have h2 := Hsz.out; omega
        have hrun2 := Hrun.out.trans (runAll_set m x ts' v1 (l - b) hn0)
        rw [← hlb1] at hrun2
        have Hrun2 := Lib.hid hrun2
        have hvx := Ex.val_le hx.ok hv1
        have hv2 := hv1.set (x := m) hvx
        have hml : m < v1.length := by rw [hv1.1]; exact h6
        have hn4 := hn3.set (k := m) (by rw [List.length_map, length_castL]; exact hml) (.int .i64 (x.val v1 : Nat))
        rw [← map_set_cast] at hn4
        have Hv2 := Lib.hid hv2
        clear hrun2 Hrun HV hv2 hvx
        generalize x.val v1 = xv at *
        have z1 : w3.cell? ⟨wr.heap.size, 0, none⟩ = some (.int .i64 6) := hx3.cell rfl
        have z2 : w3.cell? ⟨wr.heap.size, 1, none⟩ = some (.int .i64 (m : Nat)) := hx3.cell rfl
        have z3 : w3.cell? ⟨gn, m, none⟩ = some (.int .i64 (row v1 m : Nat)) := hn3.cell (get_cast_val v1 m hml)
        have z4 := hn3.free m
        have hm6 : (m : Int) < 6 := by omega
        have hx4 := hx3.other (a := ⟨gn, m, none⟩) (by show wr.heap.size ≠ gn; omega) (.int .i64 (xv : Nat))
        have z5 : (w3.setCell ⟨gn, m, none⟩ (.int .i64 (xv : Nat))).cell? ⟨wr.heap.size, 0, none⟩ = some (.int .i64 6) := hx4.cell rfl
        have ho4 := ho3.far (a := ⟨gn, m, none⟩) (by show gn < B2; omega) (.int .i64 (xv : Nat))
        have hbr4 := hbr3.setCell (p := ⟨gn, m, none⟩) hgn (.int .i64 (xv : Nat))
        have hs4 : (w3.setCell ⟨gn, m, none⟩ (.int .i64 (xv : Nat))).heap.size = w3.heap.size := by simp
        clear e0 e1 e2 e3 e4
        go_wp2_with fail
        go_roundg ((l - b) * (s.size + 2) + sizes (.set m x :: ts'))
        case measure => exact hm
        case rel => exact ⟨some ⟨gt, 0, none⟩, k, ids', ts', v1.set m xv, b + 1, by rw [hq], by rw [hcb], by omega, Hrun2, Hv2.out, hpl, by rw [hlb1, hmu, hszc]; omega, by rw [hq]; exact ho4, hn4, hbr4, by omega⟩
      | @ite _ a b' d x y z h0 h2 h3 h4 la lb ld hx hy hz =>
        rw [h0] at p0
        rw [h2] at p2
        rw [h3] at p3
        rw [h4] at p4
        have hbW0 : Below wr.heap.size wr (wr.alloc (.cells #[.int .i64 8, .int .i64 (nd P i 1), .int .i64 a, .int .i64 b', .int .i64 d] 66)) := (Below.refl _ _).alloc (Nat.le_refl _) _
        have hx0 := BoxN.new wr 66 #[.int .i64 8, .int .i64 (nd P i 1), .int .i64 a, .int .i64 b', .int .i64 d]
        have hszW : (wr.alloc (.cells #[.int .i64 8, .int .i64 (nd P i 1), .int .i64 a, .int .i64 b', .int .i64 d] 66)).heap.size = wr.heap.size + 1 := by simp
        have ho := hcut.next hbW0
        have hn := hon.all hbW0
        have hbW := hbr.trans (hbW0.mono hbr.size)
        have HT := Lib.hid hcut
        clear hcut hon
        go_upto_region 9 with fail
        generalize wr.alloc (.cells #[.int .i64 8, .int .i64 (nd P i 1), .int .i64 a, .int .i64 b', .int .i64 d] 66) = W at *
        have Hsz := Lib.hid hszW
        clear hszW
        have e0 : W.cell? ⟨wr.heap.size, 0, none⟩ = some (.int .i64 8) := hx0.cell rfl
        have e1 : W.cell? ⟨wr.heap.size, 1, none⟩ = some (.int .i64 (nd P i 1)) := hx0.cell rfl
        have e2 : W.cell? ⟨wr.heap.size, 2, none⟩ = some (.int .i64 a) := hx0.cell rfl
        have e3 : W.cell? ⟨wr.heap.size, 3, none⟩ = some (.int .i64 b') := hx0.cell rfl
        have e4 : W.cell? ⟨wr.heap.size, 4, none⟩ = some (.int .i64 d) := hx0.cell rfl
        clear p0 p1 p2 p3 p4 htop
        by_cases hbl0 : b = l
        · subst hbl0
          have hr : s.run v b = none := by rw [Hrun.out, Nat.sub_self]; exact runAll_zero (.inr (.inl ⟨_, _, _, rfl⟩)) ts' v1
          have Hr := Lib.hid hr
          clear hr Hrun
          go_wp2_with fail
          go_ret3
          rw [Hr.out]
          exact ⟨rfl, hbW⟩
        have hbl1 : ¬ ((b : Int) = l) := by omega
        have hn0 : l - b ≠ 0 := by omega
        have hlb1 : l - (b + 1) = l - b - 1 := by omega
        have hmu : (l - b) * (s.size + 2) = (l - b - 1) * (s.size + 2) + (s.size + 2) := by
          obtain ⟨d, hd⟩ : ∃ d, l - b = d + 1 := ⟨l - b - 1, by omega⟩
          rw [hd, Nat.add_sub_cancel, Nat.succ_mul]
        have hcb : ((b + 1 : Nat) : Int) = (b : Int) + 1 := by omega
        have HV := RValue_any (c := c) (cv := cn) hv1 hx (by omega) W (h.below (B := 0) hbW) hn
        go_wp2_with fail
        refine HV.mono ?_
        rintro e w3 ⟨rfl, hb3⟩
        have hx3 := hx0.all hb3
        have ho3 := ho.next hb3
        have hn3 := hn.all hb3
        have hbr3 := hbW.trans (hb3.mono hbW.size)
        have hs3 : wr.heap.size + 1 ≤ w3.heap.size := by have h1 := hb3.size; have h2 := Hsz.out; omega
        have hl1 : (castL ids'.reverse).length < 2 ^ 40 := by rw [hrl]; omega
        have f0 : w3.cell? ⟨wr.heap.size, 0, none⟩ = some (.int .i64 8) := hx3.cell rfl
        have f3 : w3.cell? ⟨wr.heap.size, 3, none⟩ = some (.int .i64 (b' : Nat)) := hx3.cell rfl
        have f4 : w3.cell? ⟨wr.heap.size, 4, none⟩ = some (.int .i64 (d : Nat)) := hx3.cell rfl
        have hsz' : 1 + y.size + z.size ≤ s.size := hsz
        have hnd' : max y.need z.need + q ≤ n - 1 := hnd
        by_cases hxv : x.val v1 = 0
        · have hrun2 := Hrun.out.trans (runAll_ite0 y z ts' (l - b) hn0 hxv)
          rw [← hlb1] at hrun2
          have Hrun2 := Lib.hid hrun2
          have dz : (((x.val v1 : Nat) : Int) != 0) = false := by simp [hxv]
          have dz2 : (((x.val v1 : Nat) : Int) == 0) = true := by simp [hxv]
          clear hrun2 Hrun HV hxv
          generalize x.val v1 = xv at *
          go_wp2_with (at_builtin; refine wpList_push_int rfl _ _ rfl rfl (ho3.next ((Below.refl _ _).alloc (Nat.le_refl _) _)) _ (d : Int) rfl (cell_of_row _ _ 0 _ _ _ (heap_alloc_new _ _)) hl1 (by simp; omega) ?_; intro u1 w4 hown_w4 hgr_w4 hblk_w4 hbl_w4; (have hlen_w4 : (castL ids'.reverse ++ [(d : Int)]).length = q + 1 := by simp [hrl]); obtain ⟨A_w4, k_w4, rfl, -⟩ := hown_w4.form; rw [hlen_w4] at hown_w4; (try rw [hlen_w4]); (have hb_w4 := hbl_w4 w3 ((Below.refl _ _).alloc (by omega) _)); (have hx_w4 := (hx3.alloc (.cells #[.int .i64 (d : Int)] 3)).grownI (ho3.next ((Below.refl _ _).alloc (Nat.le_refl _) _)) hgr_w4 (by decide)); (have g0 : w4.cell? ⟨wr.heap.size, 0, none⟩ = some (.int .i64 8) := hx_w4.cell rfl))
          have hs4 := hb_w4.size
          go_roundg ((l - b) * (s.size + 2) + sizes (.ite x y z :: ts'))
          case measure => exact hm
          case rel => exact ⟨A_w4, k_w4, d :: ids', z :: ts', v1, b + 1, by simp [hq], by rw [hcb], by omega, Hrun2, hv1, .cons hz (by omega) (by omega) (by omega) hpl, by rw [hlb1, hmu, hszc]; show _ + (z.size + sizes ts') < _ + _ + (1 + y.size + z.size + sizes ts'); omega,
            by rw [show (d :: ids').length = q + 1 by simp [hq], show castL (d :: ids').reverse = castL ids'.reverse ++ [(d : Int)] by simp [castL]]; exact hown_w4, hn3.below hb_w4 (by omega), hbr3.trans (hb_w4.mono hwB), by omega⟩
        · have hrun2 := Hrun.out.trans (runAll_ite1 y z ts' (l - b) hn0 hxv)
          rw [← hlb1] at hrun2
          have Hrun2 := Lib.hid hrun2
          have dz : (((x.val v1 : Nat) : Int) != 0) = true := by simp; omega
          have dz2 : (((x.val v1 : Nat) : Int) == 0) = false := by simp; omega
          clear hrun2 Hrun HV
          generalize x.val v1 = xv at *
          go_wp2_with (at_builtin; refine wpList_push_int rfl _ _ rfl rfl (ho3.next ((Below.refl _ _).alloc (Nat.le_refl _) _)) _ (b' : Int) rfl (cell_of_row _ _ 0 _ _ _ (heap_alloc_new _ _)) hl1 (by simp; omega) ?_; intro u1 w4 hown_w4 hgr_w4 hblk_w4 hbl_w4; (have hlen_w4 : (castL ids'.reverse ++ [(b' : Int)]).length = q + 1 := by simp [hrl]); obtain ⟨A_w4, k_w4, rfl, -⟩ := hown_w4.form; rw [hlen_w4] at hown_w4; (try rw [hlen_w4]); (have hb_w4 := hbl_w4 w3 ((Below.refl _ _).alloc (by omega) _)); (have hx_w4 := (hx3.alloc (.cells #[.int .i64 (b' : Int)] 3)).grownI (ho3.next ((Below.refl _ _).alloc (Nat.le_refl _) _)) hgr_w4 (by decide)); (have g0 : w4.cell? ⟨wr.heap.size, 0, none⟩ = some (.int .i64 8) := hx_w4.cell rfl))
          have hs4 := hb_w4.size
          go_roundg ((l - b) * (s.size + 2) + sizes (.ite x y z :: ts'))
          case measure => exact hm
          case rel => exact ⟨A_w4, k_w4, b' :: ids', y :: ts', v1, b + 1, by simp [hq], by rw [hcb], by omega, Hrun2, hv1, .cons hy (by omega) (by omega) (by omega) hpl, by rw [hlb1, hmu, hszc]; show _ + (y.size + sizes ts') < _ + _ + (1 + y.size + z.size + sizes ts'); omega,
            by rw [show (b' :: ids').length = q + 1 by simp [hq], show castL (b' :: ids').reverse = castL ids'.reverse ++ [(b' : Int)] by simp [castL]]; exact hown_w4, hn3.below hb_w4 (by omega), hbr3.trans (hb_w4.mono hwB), by omega⟩
      | @loop _ a b' x y h0 h2 h3 la lb hx hy =>
        rw [h0] at p0
        rw [h2] at p2
        rw [h3] at p3
        have hbW0 : Below wr.heap.size wr (wr.alloc (.cells #[.int .i64 9, .int .i64 (nd P i 1), .int .i64 a, .int .i64 b', .int .i64 (nd P i 4)] 66)) := (Below.refl _ _).alloc (Nat.le_refl _) _
        have hx0 := BoxN.new wr 66 #[.int .i64 9, .int .i64 (nd P i 1), .int .i64 a, .int .i64 b', .int .i64 (nd P i 4)]
        have hszW : (wr.alloc (.cells #[.int .i64 9, .int .i64 (nd P i 1), .int .i64 a, .int .i64 b', .int .i64 (nd P i 4)] 66)).heap.size = wr.heap.size + 1 := by simp
        have ho := hcut.next hbW0
        have hn := hon.all hbW0
        have hbW := hbr.trans (hbW0.mono hbr.size)
        have HT := Lib.hid hcut
        clear hcut hon
        go_upto_region 9 with fail
        generalize wr.alloc (.cells #[.int .i64 9, .int .i64 (nd P i 1), .int .i64 a, .int .i64 b', .int .i64 (nd P i 4)] 66) = W at *
        have Hsz := Lib.hid hszW
        clear hszW
        have e0 : W.cell? ⟨wr.heap.size, 0, none⟩ = some (.int .i64 9) := hx0.cell rfl
        have e1 : W.cell? ⟨wr.heap.size, 1, none⟩ = some (.int .i64 (nd P i 1)) := hx0.cell rfl
        have e2 : W.cell? ⟨wr.heap.size, 2, none⟩ = some (.int .i64 a) := hx0.cell rfl
        have e3 : W.cell? ⟨wr.heap.size, 3, none⟩ = some (.int .i64 b') := hx0.cell rfl
        have e4 : W.cell? ⟨wr.heap.size, 4, none⟩ = some (.int .i64 (nd P i 4)) := hx0.cell rfl
        clear p0 p1 p2 p3 p4 htop
        by_cases hbl0 : b = l
        · subst hbl0
          have hr : s.run v b = none := by rw [Hrun.out, Nat.sub_self]; exact runAll_zero (.inr (.inr ⟨_, _, rfl⟩)) ts' v1
          have Hr := Lib.hid hr
          clear hr Hrun
          go_wp2_with fail
          go_ret3
          rw [Hr.out]
          exact ⟨rfl, hbW⟩
        have hbl1 : ¬ ((b : Int) = l) := by omega
        have hn0 : l - b ≠ 0 := by omega
        have hlb1 : l - (b + 1) = l - b - 1 := by omega
        have hmu : (l - b) * (s.size + 2) = (l - b - 1) * (s.size + 2) + (s.size + 2) := by
          obtain ⟨d, hd⟩ : ∃ d, l - b = d + 1 := ⟨l - b - 1, by omega⟩
          rw [hd, Nat.add_sub_cancel, Nat.succ_mul]
        have hcb : ((b + 1 : Nat) : Int) = (b : Int) + 1 := by omega
        have HV := RValue_any (c := c) (cv := cn) hv1 hx (by omega) W (h.below (B := 0) hbW) hn
        go_wp2_with fail
        refine HV.mono ?_
        rintro e w3 ⟨rfl, hb3⟩
        have hx3 := hx0.all hb3
        have ho3 := ho.next hb3
        have hn3 := hn.all hb3
        have hbr3 := hbW.trans (hb3.mono hbW.size)
        have hs3 : wr.heap.size + 1 ≤ w3.heap.size := by have h1 := hb3.size; have h2 := Hsz.out; omega
        have hl1 : (castL ids'.reverse).length < 2 ^ 40 := by rw [hrl]; omega
        have hl2 : (castL ids'.reverse ++ [(i : Int)]).length < 2 ^ 40 := by rw [List.length_append, hrl]; simp; omega
        have f0 : w3.cell? ⟨wr.heap.size, 0, none⟩ = some (.int .i64 9) := hx3.cell rfl
        have hsz' : 1 + y.size ≤ s.size := hsz
        have hnd' : 1 + y.need + q ≤ n - 1 := hnd
        by_cases hxv : x.val v1 = 0
        · have hrun2 := Hrun.out.trans (runAll_loop0 y ts' (l - b) hn0 hxv)
          rw [← hlb1] at hrun2
          have Hrun2 := Lib.hid hrun2
          have dz : (((x.val v1 : Nat) : Int) != 0) = false := by simp [hxv]
          have dz2 : (((x.val v1 : Nat) : Int) == 0) = true := by simp [hxv]
          clear hrun2 Hrun HV hxv
          generalize x.val v1 = xv at *
          go_wp2_with fail
          go_roundg ((l - b) * (s.size + 2) + sizes (.loop x y :: ts'))
          case measure => exact hm
          case rel => exact ⟨some ⟨gt, 0, none⟩, k, ids', ts', v1, b + 1, by rw [hq], by rw [hcb], by omega, Hrun2, hv1, hpl, by rw [hlb1, hmu, hszc]; show _ + sizes ts' < _ + _ + (1 + y.size + sizes ts'); omega, by rw [hq]; exact ho3, hn3, hbr3, by omega⟩
        · have hrun2 := Hrun.out.trans (runAll_loop1 y ts' (l - b) hn0 hxv)
          rw [← hlb1] at hrun2
          have Hrun2 := Lib.hid hrun2
          have dz : (((x.val v1 : Nat) : Int) != 0) = true := by simp; omega
          have dz2 : (((x.val v1 : Nat) : Int) == 0) = false := by simp; omega
          clear hrun2 Hrun HV
          generalize x.val v1 = xv at *
          go_wp2_with (first | (at_builtin; refine wpList_push_int rfl _ _ rfl rfl (ho3.next ((Below.refl _ _).alloc (Nat.le_refl _) _)) _ (i : Int) rfl (cell_of_row _ _ 0 _ _ _ (heap_alloc_new _ _)) hl1 (by simp; omega) ?_; intro u1 w4 hown_w4 hgr_w4 hblk_w4 hbl_w4; (have hlen_w4 : (castL ids'.reverse ++ [(i : Int)]).length = q + 1 := by simp [hrl]); obtain ⟨A_w4, k_w4, rfl, -⟩ := hown_w4.form; rw [hlen_w4] at hown_w4; (try rw [hlen_w4]); (have hb_w4 := hbl_w4 w3 ((Below.refl _ _).alloc (by omega) _)); (have hx_w4 := (hx3.alloc (.cells #[.int .i64 (i : Int)] 3)).grownI (ho3.next ((Below.refl _ _).alloc (Nat.le_refl _) _)) hgr_w4 (by decide)); (have g0 : w4.cell? ⟨wr.heap.size, 0, none⟩ = some (.int .i64 9) := hx_w4.cell rfl); (have g3 : w4.cell? ⟨wr.heap.size, 3, none⟩ = some (.int .i64 (b' : Nat)) := hx_w4.cell rfl); (have hs4 := hb_w4.size)) | (at_builtin; refine wpList_push_int rfl _ _ rfl rfl (hown_w4.next ((Below.refl _ _).alloc (Nat.le_refl _) _)) _ (b' : Int) rfl (cell_of_row _ _ 0 _ _ _ (heap_alloc_new _ _)) hl2 (by simp; omega) ?_; intro u2 w5 hown_w5 hgr_w5 hblk_w5 hbl_w5; (have hlen_w5 : (castL ids'.reverse ++ [(i : Int)] ++ [(b' : Int)]).length = q + 2 := by simp [hrl]); obtain ⟨A_w5, k_w5, rfl, -⟩ := hown_w5.form; rw [hlen_w5] at hown_w5; (try rw [hlen_w5]); (have hb_w5 := hbl_w5 w4 ((Below.refl _ _).alloc (by omega) _)); (have hx_w5 := (hx_w4.alloc (.cells #[.int .i64 (b' : Int)] 3)).grownI (hown_w4.next ((Below.refl _ _).alloc (Nat.le_refl _) _)) hgr_w5 (by decide)); skip))
          have hs5 := hb_w5.size
          have hn5 := (hn3.below hb_w4 (by omega)).below hb_w5 (by omega)
          go_roundg ((l - b) * (s.size + 2) + sizes (.loop x y :: ts'))
          case measure => exact hm
          case rel => exact ⟨A_w5, k_w5, b' :: i :: ids', y :: .loop x y :: ts', v1, b + 1, by simp [hq], by rw [hcb], by omega, Hrun2, hv1, .cons hy (by omega) (by omega) (by simp only [List.length_cons]; omega) (.cons (.loop h0 h2 h3 la lb hx hy) hi hsz (by rw [hq]; exact hnd) hpl), by rw [hlb1, hmu, hszc]; show _ + (y.size + (1 + y.size + sizes ts')) < _ + _ + (1 + y.size + sizes ts'); omega,
            by rw [show (b' :: i :: ids').length = q + 2 by simp [hq], show castL (b' :: i :: ids').reverse = castL ids'.reverse ++ [(i : Int)] ++ [(b' : Int)] by simp [castL]]; exact hown_w5, hn5, (hbr3.trans (hb_w4.mono hwB)).trans (hb_w5.mono hwB), by omega⟩
end Go.Proofs.YthaaekpnemhjoaaDoor
