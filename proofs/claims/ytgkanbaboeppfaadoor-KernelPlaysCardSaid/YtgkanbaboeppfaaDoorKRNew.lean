/-
  Contract: quietwingref5.New.
-/
import Derived.Test.YtgkanbaboeppfaaDoorKRSave
import Derived.Test.YtgkanbaboeppfaaDoorBut
namespace Go.Proofs.YtgkanbaboeppfaaDoor
open Go.RowKit
set_option maxRecDepth 100000
set_option linter.unusedVariables false

theorem int_ne_rk : (3 : TypeId) ≠ 44 := by decide
theorem row_ne_rk : (24 : TypeId) ≠ 44 := by decide
theorem int_ne_row : (3 : TypeId) ≠ 24 := by decide
/-- A row in a block of one's own. -/
def OwnQ (lo : Nat) (w : World) (A : Option Addr) (n : Nat) (l : List Int) : Prop := l.length = n * 1 ∧ n ≤ maxLen ∧ OwnIn lo w A 3 l
theorem partRows_more (s : KState) (j : Nat) : partRows s (j + 1) = partRows s j ++ [partNums (s.parts j)] := by unfold partRows; rw [List.range_succ, List.map_append]; rfl
theorem heldRows_more (s : KState) (j : Nat) : heldRows s (j + 1) = heldRows s j ++ [s.held j] := by unfold heldRows; rw [List.range_succ, List.map_append]; rfl
theorem partNums_new (j : Nat) : partNums (kNew.parts j) = [0, 0, 0, 0, 0] := rfl
/-- What the reference's kernel holds. -/
structure RKAt (w : World) (Pp Hp : Option Addr) (cP cH n q : Nat) (s : KState) : Prop where
  parts : RowsIn anyB 1 w Pp (partRows s n)
  held : RowsIn anyB 1 w Hp (heldRows s q)
  capP : n ≤ cP
  capH : q ≤ cH
  capsP : CapsIn anyB w Pp n
  capsH : CapsIn anyB w Hp q
theorem RKAt.below {w w' : World} {Pp Hp : Option Addr} {cP cH n q : Nat} {s : KState} (h : RKAt w Pp Hp cP cH n q s) (hb : Below w.heap.size w w') : RKAt w' Pp Hp cP cH n q s := ⟨h.parts.below hb, h.held.below hb, h.capP, h.capH, h.capsP.below hb, h.capsH.below hb⟩

theorem SlVals.from {lo : Nat} {w : World} {xs : List Value} {Ls : List (List Int)} {A : Option Addr} {n c : Nat} (h : SlVals (OwnQ lo) w xs Ls) (ho : w.ownsRow lo 24 1 (.slice A n c) n xs) : RowsIn (fromB lo) 1 w A Ls := fun hne => by
  have hx : xs ≠ [] := by rintro rfl; exact hne (List.length_eq_zero_iff.1 h.1.symm)
  rcases ho.2 with ⟨_, h0⟩ | ⟨g, cap, cur, hv, hb, hg, hnc, _, hs, ht⟩
  · have := ho.1; rw [h0] at this; exact absurd (List.length_eq_zero_iff.1 (by simpa using this)) hx
  · have hA : A = some ⟨g, 0, none⟩ := by injection hv
    obtain ⟨b, off, hA2, hc⟩ := CellsAt.own ho hx
    rw [hA] at hA2
    injection hA2 with hA2
    injection hA2 with h1 h2
    subst h1; subst h2
    refine ⟨g, 0, hA, hb, fun i l hi => ?_⟩
    obtain ⟨Ai, ni, ci, h1, h2, h3, h4⟩ := h.2 i l hi
    exact ⟨Ai, ni, ci, hc i _ h1, h2, h3, h4.intsIn⟩
theorem RowsIn.any {ok : Nat → Prop} {k : Nat} {w : World} {A : Option Addr} {Ls : List (List Int)} (h : RowsIn ok k w A Ls) : RowsIn anyB k w A Ls := h.mono fun _ _ _ => trivial
theorem ownIn_new (w : World) (l : List Int) {lo : Nat} (hlo : lo ≤ w.heap.size) : OwnIn lo (w.alloc (.cells (l.map (Value.int .i64)).toArray 3)) (some ⟨w.heap.size, 0, none⟩) 3 l := fun _ =>
  ⟨w.heap.size, rfl, hlo, (l.map (Value.int .i64)).toArray, heap_alloc_new w _, by simp, fun j v hj => by simpa using hj⟩
theorem CapsIn.setB {lo : Nat} {w : World} {A : Option Addr} {n b i : Nat} (h : CapsIn (fromB lo) w A n) (hb : b < lo) (v : Value) : CapsIn (fromB lo) (w.setCell ⟨b, i, none⟩ v) A n := h.keep fun g _ hg => Below.heap_setCell w ⟨b, i, none⟩ v g (by have : lo ≤ g := hg; show g ≠ b; omega)
theorem CapsIn.any {ok : Nat → Prop} {w : World} {A : Option Addr} {n : Nat} (h : CapsIn ok w A n) : CapsIn anyB w A n := h.mono fun _ _ _ => trivial
theorem boxAt (w : World) (t : TypeId) (vs : Array Value) (p : Nat) (hp : p = w.heap.size) : BoxN (w.alloc (.cells vs t)) p t vs := by subst hp; exact BoxN.new w t vs

structure RKIn (ok : Nat → Prop) (w : World) (Pp Hp : Option Addr) (cP cH n q : Nat) (s : KState) : Prop where
  parts : RowsIn ok 1 w Pp (partRows s n)
  held : RowsIn ok 1 w Hp (heldRows s q)
  capP : n ≤ cP
  capH : q ≤ cH
  capsP : CapsIn ok w Pp n
  capsH : CapsIn ok w Hp q

set_option maxHeartbeats 8000000 in
theorem RNew_any {Ap Ao At : Option Addr} {n q m cp co ct : Nat} {w : World} (hn : n ≤ 5) (hq : q ≤ 6) :
    Calls Tryd.prog 15 #[.agg #[.slice Ap n cp, .slice Ao q co, .slice At m ct]] w fun e w' => (∃ Pp Hp cP cH, e = .returned (.agg (rkV Ap Ao At cp co ct n q m 0 Pp Hp cP cH)) ∧ RKIn (fromB w.heap.size) w' Pp Hp cP cH n q kNew) ∧ Below w.heap.size w w' := by
  have hs0 := ((BoxN.new w 26 #[.slice Ap n cp, .slice Ao q co, .slice At m ct]).alloc (.cells #[.slice none 0 0, .slice none 0 0, .slice none 0 0, .int .i64 0, .slice none 0 0, .slice none 0 0] 44)).alloc (.cells #[.slice Ap n cp, .slice Ao q co, .slice At m ct, .int .i64 0, .slice none 0 0, .slice none 0 0] 44)
  have hz0 : BoxN (((w.alloc (.cells #[.slice Ap n cp, .slice Ao q co, .slice At m ct] 26)).alloc (.cells #[.slice none 0 0, .slice none 0 0, .slice none 0 0, .int .i64 0, .slice none 0 0, .slice none 0 0] 44)).alloc (.cells #[.slice Ap n cp, .slice Ao q co, .slice At m ct, .int .i64 0, .slice none 0 0, .slice none 0 0] 44)) (w.heap.size + 1) 44 #[.slice none 0 0, .slice none 0 0, .slice none 0 0, .int .i64 0, .slice none 0 0, .slice none 0 0] := (boxAt (w.alloc (.cells #[.slice Ap n cp, .slice Ao q co, .slice At m ct] 26)) _ _ (w.heap.size + 1) (by simp)).alloc _
  have hk0 : BoxN (((w.alloc (.cells #[.slice Ap n cp, .slice Ao q co, .slice At m ct] 26)).alloc (.cells #[.slice none 0 0, .slice none 0 0, .slice none 0 0, .int .i64 0, .slice none 0 0, .slice none 0 0] 44)).alloc (.cells #[.slice Ap n cp, .slice Ao q co, .slice At m ct, .int .i64 0, .slice none 0 0, .slice none 0 0] 44)) (w.heap.size + 2) 44 #[.slice Ap n cp, .slice Ao q co, .slice At m ct, .int .i64 0, .slice none 0 0, .slice none 0 0] := boxAt ((w.alloc (.cells #[.slice Ap n cp, .slice Ao q co, .slice At m ct] 26)).alloc (.cells #[.slice none 0 0, .slice none 0 0, .slice none 0 0, .int .i64 0, .slice none 0 0, .slice none 0 0] 44)) _ _ (w.heap.size + 2) (by simp)
  have hb0 := (((Below.refl w.heap.size w).alloc (Nat.le_refl _) (.cells #[.slice Ap n cp, .slice Ao q co, .slice At m ct] 26)).alloc (by simp) (.cells #[.slice none 0 0, .slice none 0 0, .slice none 0 0, .int .i64 0, .slice none 0 0, .slice none 0 0] 44)).alloc (by simp; omega) (.cells #[.slice Ap n cp, .slice Ao q co, .slice At m ct, .int .i64 0, .slice none 0 0, .slice none 0 0] 44)
  have hsz : (((w.alloc (.cells #[.slice Ap n cp, .slice Ao q co, .slice At m ct] 26)).alloc (.cells #[.slice none 0 0, .slice none 0 0, .slice none 0 0, .int .i64 0, .slice none 0 0, .slice none 0 0] 44)).alloc (.cells #[.slice Ap n cp, .slice Ao q co, .slice At m ct, .int .i64 0, .slice none 0 0, .slice none 0 0] 44)).heap.size = w.heap.size + 3 := by simp
  have x0 := ((BoxN.new w 26 #[.slice Ap n cp, .slice Ao q co, .slice At m ct]).alloc (.cells #[.slice none 0 0, .slice none 0 0, .slice none 0 0, .int .i64 0, .slice none 0 0, .slice none 0 0] 44)).cell (k := 0) rfl
  have x1 := ((BoxN.new w 26 #[.slice Ap n cp, .slice Ao q co, .slice At m ct]).alloc (.cells #[.slice none 0 0, .slice none 0 0, .slice none 0 0, .int .i64 0, .slice none 0 0, .slice none 0 0] 44)).cell (k := 1) rfl
  have x2 := ((BoxN.new w 26 #[.slice Ap n cp, .slice Ao q co, .slice At m ct]).alloc (.cells #[.slice none 0 0, .slice none 0 0, .slice none 0 0, .int .i64 0, .slice none 0 0, .slice none 0 0] 44)).cell (k := 2) rfl
  go_enter Tryd.func15, Tryd.ntmps15
  go_wp2_with fail
  generalize ((w.alloc (.cells #[.slice Ap n cp, .slice Ao q co, .slice At m ct] 26)).alloc (.cells #[.slice none 0 0, .slice none 0 0, .slice none 0 0, .int .i64 0, .slice none 0 0, .slice none 0 0] 44)).alloc (.cells #[.slice Ap n cp, .slice Ao q co, .slice At m ct, .int .i64 0, .slice none 0 0, .slice none 0 0] 44) = w1 at *
  clear x0 x1 x2
  have x0 := hs0.cell (k := 0) rfl
  have Hsz := Lib.hid hsz
  clear hsz
  go_loopw [4] (fun i wr => ∃ (j : Nat) (v : Value) (xs : List Value), j ≤ n ∧ i = .int .i64 j ∧ BoxN wr w.heap.size 26 #[.slice Ap n cp, .slice Ao q co, .slice At m ct] ∧ BoxN wr (w.heap.size + 1) 44 #[.slice none 0 0, .slice none 0 0, .slice none 0 0, .int .i64 0, .slice none 0 0, .slice none 0 0] ∧ BoxN wr (w.heap.size + 2) 44 #[.slice Ap n cp, .slice Ao q co, .slice At m ct, .int .i64 0, v, .slice none 0 0] ∧ wr.ownsRow (w.heap.size + 3) 24 1 v j xs ∧ SlVals (OwnQ (w.heap.size + 3)) wr xs (partRows kNew j) ∧ Below w.heap.size w wr ∧ Hid (w.heap.size + 3 ≤ wr.heap.size) ∧ CapsV xs) (fun i _ => n - (intOf i).toNat)
  case atStart => exact ⟨0, _, [], Nat.zero_le _, rfl, hs0, hz0, hk0, World.ownsRow_nil _ _ _ _, SlVals.nil, hb0, Lib.hid (by rw [Hsz.out]; exact Nat.le_refl _), CapsV.nil⟩
  case round =>
    clear hs0 hz0 hk0 hb0 x0
    obtain ⟨j, v, xs, hj, rfl, hs, hz, hk, hown, hvs, hbr, hsr, hcv⟩ := hrel
    have x0 := hs.cell (k := 0) rfl
    have y4 := hk.cell (k := 4) rfl
    have f4 := hk.free 4
    by_cases hlt : j < n
    · have hmore := partRows_more kNew j
      rw [partNums_new] at hmore
      have Hmore := Lib.hid hmore
      clear hmore
      have y4' := ((hk.alloc (.cells #[.int .i64 0, .int .i64 0, .int .i64 0, .int .i64 0, .int .i64 0] 3)).alloc (.cells #[.slice (some ⟨wr.heap.size, 0, none⟩) 5 5] 24)).cell (k := 4) rfl
      go_wp2_with (at_builtin; refine wpList_push_one eGI (by decide) rfl _ _ rfl rfl (ownsRow_below hown (w1 := _) (B := wr.heap.size) (((Below.refl _ _).alloc (Nat.le_refl _) _).alloc (by simp) _) (Nat.le_refl _)) (wr.heap.size + 1) (.slice (some ⟨wr.heap.size, 0, none⟩) 5 5) rfl rfl ((boxAt (wr.alloc (.cells #[.int .i64 0, .int .i64 0, .int .i64 0, .int .i64 0, .int .i64 0] 3)) 24 #[.slice (some ⟨wr.heap.size, 0, none⟩) 5 5] (wr.heap.size + 1) (by simp)).cell rfl) (by omega) (by have := hsr.out; simp; omega) ?_; intro B' cc w' hown' hgr hbl; have hbf := hbl wr (((Below.refl _ wr).alloc hsr.out _).alloc (by have := hsr.out; simp; omega) _); have hk' := hk.below hbf (by omega); have yk := hk'.cell (k := 4) rfl; have fk := hk'.free 4)
      refine ⟨⟨j + 1, .slice B' (j + 1) cc, xs ++ [.slice (some ⟨wr.heap.size, 0, none⟩) 5 5], ?ya, ?yb, ?yc, ?ye, hk'.set 4 _, ?yf, ?yg, ?yh, ?yi, hcv.push (Nat.le_refl _)⟩, ?yd⟩
      case ya => omega
      case yb => go_num
      case yc => exact (hs.below hbf (by omega)).other (a := ⟨w.heap.size + 2, 4, none⟩) (by show w.heap.size ≠ w.heap.size + 2; omega) _
      case ye => exact (hz.below hbf (by omega)).other (a := ⟨w.heap.size + 2, 4, none⟩) (by show w.heap.size + 1 ≠ w.heap.size + 2; omega) _
      case yf => exact ownsRow_far hown' hk' row_ne_rk 4 _
      case yg =>
        rw [Hmore.out]
        have hb2 : Below wr.heap.size wr ((wr.alloc (.cells #[.int .i64 0, .int .i64 0, .int .i64 0, .int .i64 0, .int .i64 0] 3)).alloc (.cells #[.slice (some ⟨wr.heap.size, 0, none⟩) 5 5] 24)) := ((Below.refl _ _).alloc (Nat.le_refl _) _).alloc (by simp) _
        have hgo := ownsRow_below hown hb2 (Nat.le_refl _)
        refine SlVals.push (hvs.keep fun A n l hr => ⟨hr.1, hr.2.1, ((hr.2.2.below' hb2 (Nat.le_refl _)).grown (v := v) hgr hgo int_ne_row).set hk' int_ne_rk 4 _⟩) ⟨rfl, by decide, ?_⟩
        have h5 := ownIn_new wr [0, 0, 0, 0, 0] hsr.out
        exact ((h5.below' (((Below.refl _ _).alloc (Nat.le_refl _) (.cells #[.slice (some ⟨wr.heap.size, 0, none⟩) 5 5] 24))) (Nat.le_refl _)).grown (v := v) hgr hgo int_ne_row).set hk' int_ne_rk 4 _
      case yh => exact belowSet (hbr.trans (hbf.mono (by omega))) (by omega) _
      case yi => exact Lib.hid (by simp; exact Nat.le_trans hsr.out hbf.size)
      case yd => simp [intOf]; omega
    obtain rfl : n = j := by omega
    generalize wr = wc at *
    obtain ⟨Pp, cP, rfl⟩ := ownsRow_form hown
    have hPr := hvs.from hown
    have hcP := ownsRow_cap hown
    have hCr := hcv.own (ok := fromB (w.heap.size + 3)) hown (fun b hb => hb)
    go_wp2_with fail
    clear x0 y4 f4
    have x1 := hs.cell (k := 1) rfl
    go_loopw [5] (fun i wx => ∃ (j : Nat) (v : Value) (xs : List Value), j ≤ q ∧ i = .int .i64 j ∧ Hid (KeepsBut (w.heap.size + 2) wc wx) ∧ BoxN wx (w.heap.size + 2) 44 #[.slice Ap n cp, .slice Ao q co, .slice At m ct, .int .i64 0, .slice Pp n cP, v] ∧ wx.ownsRow wc.heap.size 24 1 v j xs ∧ SlVals (OwnQ wc.heap.size) wx xs (heldRows kNew j) ∧ Below w.heap.size w wx ∧ Hid (wc.heap.size ≤ wx.heap.size) ∧ CapsV xs) (fun i _ => q - (intOf i).toNat)
    case atStart => exact ⟨0, _, [], Nat.zero_le _, rfl, Lib.hid (KeepsBut.refl _ _), hk, World.ownsRow_nil _ _ _ _, SlVals.nil, hbr, Lib.hid (Nat.le_refl _), CapsV.nil⟩
    case round =>
      obtain ⟨j, v, xs, hj, rfl, hkb, hk2, hown2, hvs2, hbx, hsx, hcv2⟩ := hrel
      have hlo := hsr.out
      have hs2 := hkb.out.box hs (by omega)
      have hz2 := hkb.out.box hz (by omega)
      clear x1
      have x1 := hs2.cell (k := 1) rfl
      have y5 := hk2.cell (k := 5) rfl
      have f5 := hk2.free 5
      by_cases hlt2 : j < q
      · have hmore := heldRows_more kNew j
        rw [show kNew.held j = [] from rfl] at hmore
        have Hmore := Lib.hid hmore
        clear hmore
        have y5' := (hk2.alloc (.cells #[.slice none 0 0] 24)).cell (k := 5) rfl
        go_wp2_with (at_builtin; refine wpList_push_one eGI (by decide) rfl _ _ rfl rfl (ownsRow_below hown2 (w1 := _) (B := wr.heap.size) ((Below.refl _ _).alloc (Nat.le_refl _) _) (Nat.le_refl _)) wr.heap.size (.slice none 0 0) rfl rfl (cell_of_row _ _ 0 _ _ _ (heap_alloc_new _ _)) (by omega) (by have := hsx.out; simp; omega) ?_; intro B' cc w' hown' hgr hbl; have hbf := hbl wr ((Below.refl _ wr).alloc hsx.out _); have hk' := hk2.below hbf (by omega); have yk := hk'.cell (k := 5) rfl; have fk := hk'.free 5)
        refine ⟨⟨j + 1, .slice B' (j + 1) cc, xs ++ [.slice none 0 0], ?za, ?zb, ?zc, hk'.set 5 _, ?zf, ?zg, ?zh, ?zi, hcv2.push (Nat.le_refl _)⟩, ?zd⟩
        case za => omega
        case zb => go_num
        case zc => exact Lib.hid (KeepsBut.setCell ⟨Nat.le_trans hsx.out hbf.size, fun b hb hl => (hbf.block b hl).trans (hkb.out.block b hb hl)⟩ 5 _)
        case zf => exact ownsRow_far hown' hk' row_ne_rk 5 _
        case zg =>
          rw [Hmore.out]
          have hb2 : Below wr.heap.size wr (wr.alloc (.cells #[.slice none 0 0] 24)) := (Below.refl _ _).alloc (Nat.le_refl _) _
          have hgo := ownsRow_below hown2 hb2 (Nat.le_refl _)
          exact SlVals.push (hvs2.keep fun A n l hr => ⟨hr.1, hr.2.1, ((hr.2.2.below' hb2 (Nat.le_refl _)).grown (v := v) hgr hgo int_ne_row).set hk' int_ne_rk 5 _⟩) ⟨rfl, by decide, OwnIn.nil⟩
        case zh => exact belowSet (hbx.trans (hbf.mono (by omega))) (by omega) _
        case zi => exact Lib.hid (by simp; exact Nat.le_trans hsx.out hbf.size)
        case zd => simp [intOf]; omega
      · obtain rfl : q = j := by omega
        obtain ⟨Hp, cH, rfl⟩ := ownsRow_form hown2
        clear y5 f5
        have y0 := hk2.cell (k := 0) rfl
        have y1 := hk2.cell (k := 1) rfl
        have y2 := hk2.cell (k := 2) rfl
        have y3 := hk2.cell (k := 3) rfl
        have y4 := hk2.cell (k := 4) rfl
        have y5 := hk2.cell (k := 5) rfl
        have z0 := hz2.cell (k := 0) rfl
        have z1 := hz2.cell (k := 1) rfl
        have z2 := hz2.cell (k := 2) rfl
        have z3 := hz2.cell (k := 3) rfl
        have z4 := hz2.cell (k := 4) rfl
        have z5 := hz2.cell (k := 5) rfl
        have fz0 := hz2.free 0
        have fz1 := hz2.free 1
        have fz2 := hz2.free 2
        have fz3 := hz2.free 3
        have fz4 := hz2.free 4
        have fz5 := hz2.free 5
        go_wp2_with fail
        have hR := (((((hz2.set 0 (.slice Ap n cp)).set 1 (.slice Ao q co)).set 2 (.slice At m ct)).set 3 (.int .i64 0)).set 4 (.slice Pp n cP)).set 5 (.slice Hp q cH)
        refine bodyPost_ret (results_row1 rfl _ _ (w.heap.size + 1) 44 (rkV Ap Ao At cp co ct n q m 0 Pp Hp cP cH) (0, 0) _ rfl hR Tryd.underlying44 rfl (by kernel_rfl)) rfl ?_
        have hPw : RowsIn (fromB (w.heap.size + 3)) 1 wr Pp (partRows kNew n) := hPr.keep fun b hb hok => hkb.out.block b (by have : w.heap.size + 3 ≤ b := hok; omega) hb
        have hHw := hvs2.from hown2
        have hCw : CapsIn (fromB (w.heap.size + 3)) wr Pp n := hCr.keep fun b hb hok => hkb.out.block b (by have : w.heap.size + 3 ≤ b := hok; omega) hb
        have hDw := hcv2.own (ok := fromB wc.heap.size) hown2 (fun b hb => hb)
        have h1 : w.heap.size + 1 < w.heap.size + 3 := by omega
        have h2 : w.heap.size + 1 < wc.heap.size := by omega
        have h3 : w.heap.size ≤ w.heap.size + 1 := by omega
        have hlo2 : w.heap.size ≤ wc.heap.size := by omega
        exact ⟨⟨Pp, Hp, cP, cH, rfl, (((((((hPw.set h1 _).set h1 _).set h1 _).set h1 _).set h1 _).set h1 _)).mono fun b _ hb => (by have hb : w.heap.size + 3 ≤ b := hb; show w.heap.size ≤ b; omega), (((((((hHw.set h2 _).set h2 _).set h2 _).set h2 _).set h2 _).set h2 _)).mono fun b _ hb => Nat.le_trans hlo2 hb, hcP, ownsRow_cap hown2, ((((((hCw.setB h1 _).setB h1 _).setB h1 _).setB h1 _).setB h1 _).setB h1 _).mono fun b _ hb => (by have hb : w.heap.size + 3 ≤ b := hb; show w.heap.size ≤ b; omega), ((((((hDw.setB h2 _).setB h2 _).setB h2 _).setB h2 _).setB h2 _).setB h2 _).mono fun b _ hb => Nat.le_trans hlo2 hb⟩, belowSet (belowSet (belowSet (belowSet (belowSet (belowSet hbx h3 _) h3 _) h3 _) h3 _) h3 _) h3 _⟩
end Go.Proofs.YtgkanbaboeppfaaDoor
