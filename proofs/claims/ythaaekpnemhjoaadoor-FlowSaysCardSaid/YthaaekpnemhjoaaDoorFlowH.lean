/-
  Contract: flow.Least.
-/
import Derived.Test.YthaaekpnemhjoaaDoorFlowG
namespace Go.Proofs.YthaaekpnemhjoaaDoor
open Go.RowKit Go.Shelf
set_option maxRecDepth 100000
set_option linter.unusedVariables false

/-- What Least's closure has made of settings. -/
structure LeastMem (w0 : World) (E ob lb ab b off c co g : Nat) (M O0 : List Int) (l : List (Nat × Nat)) (V : World) : Prop where
  low : Below w0.heap.size w0 V
  up : E ≤ V.heap.size
  out : BoxN V ob 23 #[.slice (some ⟨g, 0, none⟩) 6 co]
  lev : BoxN V lb 23 #[.slice (some ⟨b, off, none⟩) 6 c]
  row : OwnAt V g 3 ((leastPass M l (O0, false)).1.map (Value.int .i64))
  again : BoxN V ab 4 #[.bool (leastPass M l (O0, false)).2]
theorem least_sees {w0 : World} {E ob lb ab b off c co g : Nat} {M O0 : List Int} (hgw : w0.heap.size ≤ g) (hgE : g < E) (haw : w0.heap.size ≤ ab) (haE : ab < E) (hob : ob ≠ ab) (hlb : lb ≠ ab) (hb : b < w0.heap.size) (hM : IntsAt w0 (some ⟨b, off, none⟩) M) (h6 : M.length = 6) (o6 : O0.length = 6) (hT : Tab w0) :
    Sees w0 E 41 #[.pointer (some ⟨ob, 0, none⟩), .pointer (some ⟨lb, 0, none⟩), .pointer (some ⟨ab, 0, none⟩)] (LeastMem w0 E ob lb ab b off c co g M O0) where
  enters := enters_of Tryd.func41 (by kernel_rfl) rfl
  low _ _ h := h.low
  up _ _ h := h.up
  keep _ _ _ h hb := ⟨h.low.trans (hb.mono h.low.size), Nat.le_trans h.up hb.size, h.out.all hb, h.lev.all hb, h.row.all hb, h.again.all hb⟩
  call l x f V h hx hf := (Least1_any h.out h.row h.lev h.again hb hgw haw h.low hM h6 (by rw [leastPass_len]; exact o6) hT hx hf (r := leastPass M (l ++ [(x, f)]) (O0, false)) (leastPass_snoc M l (O0, false) (x, f)).symm).mono fun e w' ⟨he, h1, h2, h3, h4, h5, h7⟩ =>
    ⟨he, ⟨h4, Nat.le_trans h.up h5, h3 _ _ _ h.out hob (by decide), h3 _ _ _ h.lev hlb (by decide), h1, h2⟩, ⟨h5, fun q hq hl => h7 q (by omega) (by omega) hl⟩⟩

def leastCode (P : List Int) (n : Nat) (M : List Int) : Nat := if progCode P n = 0 then levCode M (-1) else progCode P n
theorem leastCode_ok {P : List Int} {n : Nat} {M : List Int} (h : leastCode P n M = 0) : progCode P n = 0 ∧ M.length = 6 ∧ ∀ i, i < 6 → -1 ≤ gI M i ∧ gI M i ≤ 7 := by
  unfold leastCode at h
  split at h
  · rename_i hc
    unfold levCode at h
    split at h
    · rename_i h6
      split at h
      · rename_i ha
        refine ⟨hc, h6, fun i hi => ?_⟩
        rw [List.all_eq_true] at ha
        exact of_decide_eq_true (ha _ (List.mem_of_getElem? (get_gI (by omega))))
      · cases h
    · cases h
  · rename_i hc; exact absurd h hc
set_option maxHeartbeats 2000000 in
theorem Least_bad {P : List Int} {n : Nat} {A : Option Addr} {c : Nat} {w : World} {M : List Int} {Al : Option Addr} {cl : Nat} {k : Nat} (h : NodesAt w A P n) (hL : IntsAt w Al M) (hk : leastCode P n M = k) (hne : k ≠ 0) :
    Calls Tryd.prog 20 #[.slice A n c, .slice Al M.length cl] w fun e w' => e = .returned (.tuple #[.slice none 0 0, .iface 62 (.int .i64 k)]) ∧ Below w.heap.size w w' := by
  have hb0 : Below w.heap.size w (w.alloc (.cells #[.slice Al M.length cl] 23)) := (Below.refl _ _).alloc (Nat.le_refl _) _
  have HC := PCheck_any (c := c) (h.below (B := 0) hb0)
  have hx := BoxN.new w 23 #[.slice Al M.length cl]
  by_cases hc : progCode P n = 0
  · have hl : levCode M (-1) = k := by rw [← hk]; unfold leastCode; rw [if_pos hc]
    rw [hc, errVal_zero] at HC
    have HC := Lib.hid HC
    have HL := Lib.hid (fun V (hV : Below w.heap.size w V) => levels_any M (-1) Al cl V (hL.below hV))
    rw [hl, errVal_pos hne] at HL
    clear hk hc hl hne h hL
    generalize M.length = m at *
    go_enter Tryd.func20, Tryd.ntmps20
    go_wp2_with fail
    refine HC.out.mono ?_
    rintro e w1 ⟨rfl, hb1⟩
    have e1 : w1.cell? ⟨w.heap.size, 0, none⟩ = some (.slice Al m cl) := (hx.all hb1).cell rfl
    have hbw := hb0.trans (hb1.mono hb0.size)
    clear HC
    go_wp2_with (go_at_call 28; with_reducible refine (HL.out _ hbw).mono ?_; rintro e w2 ⟨rfl, rfl⟩)
    go_ret2
    exact ⟨rfl, hbw⟩
  · have hl : progCode P n = k := by rw [← hk]; unfold leastCode; rw [if_neg hc]
    rw [hl, errVal_pos hne] at HC
    have HC := Lib.hid HC
    clear hk hc hl hne h hL
    generalize M.length = m at *
    go_enter Tryd.func20, Tryd.ntmps20
    go_wp2_with fail
    refine HC.out.mono ?_
    rintro e w1 ⟨rfl, hb1⟩
    have hbw := hb0.trans (hb1.mono hb0.size)
    go_wp2_with fail
    go_ret2
    exact ⟨rfl, hbw⟩

/-- What Least tells. -/
def LeastPost (w : World) (M : List Int) (S : List (Nat × Nat)) (e : Ending) (w' : World) : Prop :=
  (∃ O, LeastInv M S O ∧ Stable M S O ∧ ((fitB O S = true ∧ ∃ B c', e = .returned (.tuple #[.slice B 6 c', .nilIface]) ∧ IntsAt w' B O) ∨
    (fitB O S = false ∧ e = .returned (.tuple #[.slice none 0 0, .iface 62 (.int .i64 6)])))) ∧ Below w.heap.size w w'
set_option maxHeartbeats 4000000 in
theorem Least_ok {P : List Int} {n : Nat} {A : Option Addr} {c : Nat} {w : World} {M : List Int} {Al : Option Addr} {cl : Nat} {s : St} (h : NodesAt w A P n) (hL : IntsAt w Al M) (hk : leastCode P n M = 0) (hs : IsSt P (n - 1) s) (hT : Tab w) :
    Calls Tryd.prog 20 #[.slice A n c, .slice Al M.length cl] w (LeastPost w M (s.sets 0)) := by
  obtain ⟨hc, h6, hbM⟩ := leastCode_ok hk
  have hl : levCode M (-1) = 0 := by unfold leastCode at hk; rwa [if_pos hc] at hk
  obtain ⟨⟨hn1, hn80⟩, -, -⟩ := progCode_tree hc
  have hS : ∀ p ∈ s.sets 0, p.1 < 6 ∧ p.2 < 64 := fun p hp => sets_lt hs.ok (by decide) p hp
  obtain ⟨b, off, rfl, hcl⟩ := (show _ from hL) (by intro e; rw [e] at h6; cases h6)
  have hbw : b < w.heap.size := block_lt (hcl 0 _ (get_gI (by omega)))
  have hb0 : Below w.heap.size w (w.alloc (.cells #[.slice (some ⟨b, off, none⟩) 6 cl] 23)) := (Below.refl _ _).alloc (Nat.le_refl _) _
  have HC := PCheck_any (c := c) (h.below (B := 0) hb0)
  have hx := BoxN.new w 23 #[.slice (some ⟨b, off, none⟩) 6 cl]
  rw [hc, errVal_zero] at HC
  have HC := Lib.hid HC
  have HL := Lib.hid (fun V (hV : Below w.heap.size w V) => levels_any M (-1) (some ⟨b, off, none⟩) cl V (hL.below hV))
  rw [hl, errVal_zero] at HL
  rw [h6] at HL
  have HCl := fun V (hV : Below w.heap.size w V) => Clone_some b off cl M V (hL.below hV) (by intro e; rw [e] at h6; cases h6) (by rw [h6]; decide)
  rw [h6] at HCl
  have HCl := Lib.hid HCl
  have hsub : (n : Int) - 1 = ((n - 1 : Nat) : Int) := by omega
  have h1n : (1 : Int) ≤ n := by omega
  rw [h6]
  clear hk hl hcl
  go_enter Tryd.func20, Tryd.ntmps20
  go_wp2_with fail
  refine HC.out.mono ?_
  rintro e w1 ⟨rfl, hb1⟩
  have hx1 := hx.all hb1
  have e1 : w1.cell? ⟨w.heap.size, 0, none⟩ = some (.slice (some ⟨b, off, none⟩) 6 cl) := hx1.cell rfl
  have hbw1 := hb0.trans (hb1.mono hb0.size)
  have hs1 : w.heap.size + 1 ≤ w1.heap.size := by have := hb1.size; simp at this; omega
  clear HC hb0 hb1 hx
  go_wp2_with (go_at_call 28; with_reducible refine (HL.out _ hbw1).mono ?_; rintro e w2 ⟨rfl, rfl⟩)
  refine (HCl.out _ hbw1).mono ?_
  rintro e w2 ⟨g, co, rfl, hg1, ho2, hb2⟩
  have hx2 := hx1.all hb2
  have hbw2 := hbw1.trans (hb2.mono hbw1.size)
  have hs2 := hb2.size
  have hglt := ho2.lt
  have ho3 := ho2.alloc (.cells #[.slice (some ⟨g, 0, none⟩) 6 co] 23)
  have hx3 := hx2.alloc (.cells #[.slice (some ⟨g, 0, none⟩) 6 co] 23)
  have hy3 := BoxN.new w2 23 #[.slice (some ⟨g, 0, none⟩) 6 co]
  have hbw3 := hbw2.alloc hbw2.size (.cells #[.slice (some ⟨g, 0, none⟩) 6 co] 23)
  have hs3 : (w2.alloc (.cells #[.slice (some ⟨g, 0, none⟩) 6 co] 23)).heap.size = w2.heap.size + 1 := by simp
  clear HCl HL e1 ho2 hx1 hx2 hb2
  go_wp2_with fail
  generalize (w2.alloc (.cells #[.slice (some ⟨g, 0, none⟩) 6 co] 23)) = w3 at *
  have hgw : w.heap.size ≤ g := Nat.le_trans hbw1.size hg1
  go_loopw [27] (fun i wr => ∃ (k : Nat) (O : List Int), k ≤ 6 ∧ i = .int .i64 k ∧ O.length = 6 ∧ Hid (∀ j, j < 6 → gI O j = if j < k then max (gI M j) 0 else gI M j) ∧ OwnAt wr g 3 (O.map (Value.int .i64)) ∧ BoxN wr w2.heap.size 23 #[.slice (some ⟨g, 0, none⟩) 6 co] ∧ BoxN wr w.heap.size 23 #[.slice (some ⟨b, off, none⟩) 6 cl] ∧ Below w.heap.size w wr ∧ wr.heap.size = w3.heap.size) (fun i _ => 6 - (intOf i).toNat)
  case atStart => exact ⟨0, M, Nat.zero_le _, rfl, h6, Lib.hid (fun j hj => by simp), ho3, hy3, hx3, hbw3, rfl⟩
  case round =>
    clear ho3 hy3 hx3 hbw3
    obtain ⟨k, O, hk, rfl, hO6, hO, ho, hy, hx, hbr, hsz⟩ := hrel
    by_cases hlt : k < 6
    · have c1 : wr.cell? ⟨w2.heap.size, 0, none⟩ = some (.slice (some ⟨g, 0, none⟩) 6 co) := hy.cell rfl
      have c2 : wr.cell? ⟨g, k, none⟩ = some (.int .i64 (gI O k)) := ho.cell (by rw [List.getElem?_map, get_gI (by omega)]; rfl)
      have c3 := ho.free k
      have hk6 : (k : Int) < 6 := by omega
      have Hset : ∀ z : Int, (O.map (Value.int .i64)).set k (.int .i64 z) = (O.set k z).map (Value.int .i64) := fun z => by rw [List.map_set]
      have Hset := Lib.hid Hset
      have Ho := Lib.hid ho
      have Hy := Lib.hid hy
      have Hx := Lib.hid hx
      have hgy : w2.heap.size ≠ g := (ho.ne_box hy (by decide)).symm
      have hgx : w.heap.size ≠ g := (ho.ne_box hx (by decide)).symm
      have Hnx := Lib.hid (fun (z : Int) (hz : z = max (gI O k) 0) => show ∀ j, j < 6 → gI (O.set k z) j = if j < k + 1 then max (gI M j) 0 else gI M j from fun j hj => by
        rw [gI_set (by omega)]
        by_cases e : k = j
        · subst e
          have := hO.out k hj
          rw [if_neg (by omega)] at this
          rw [if_pos rfl, if_pos (by omega), hz, this]
        · rw [if_neg e, hO.out j hj]
          by_cases h1 : j < k
          · rw [if_pos h1, if_pos (by omega)]
          · rw [if_neg h1, if_neg (by omega)])
      clear ho hy hx hO
      generalize gI O k = x at *
      rcases Int.lt_or_le x 0 with hx0 | hx0
      · have Hn := Lib.hid (Hnx.out 0 (by omega))
        clear Hnx
        go_wp2_with fail
        go_region
        go_wp2_with fail
        refine ⟨⟨k + 1, O.set k 0, ?ra, ?rb, ?rc, Hn, ?re, ?rf, ?rg, ?rh, ?ri⟩, ?rd⟩
        case ra => omega
        case rb => go_num
        case rc => simp [hO6]
        case re => rw [← Hset.out]; exact (Ho.out.set (by simp; omega) _).drew
        case rf => exact (Hy.out.other (a := ⟨g, k, none⟩) hgy _).drew
        case rg => exact (Hx.out.other (a := ⟨g, k, none⟩) hgx _).drew
        case rh => exact (hbr.setCell (p := ⟨g, k, none⟩) hgw _).drew
        case ri => simp; exact hsz
        case rd => simp [intOf]; omega
      · have Hn := Lib.hid (Hnx.out x (by omega))
        clear Hnx
        go_wp2_with fail
        go_region
        go_wp2_with fail
        refine ⟨⟨k + 1, O.set k x, ?ta, ?tb, ?tc, Hn, ?te, ?tf, ?tg, ?th, ?ti⟩, ?td⟩
        case ta => omega
        case tb => go_num
        case tc => simp [hO6]
        case te => rw [← Hset.out]; exact (Ho.out.set (by simp; omega) _).drew
        case tf => exact (Hy.out.other (a := ⟨g, k, none⟩) hgy _).drew
        case tg => exact (Hx.out.other (a := ⟨g, k, none⟩) hgx _).drew
        case th => exact (hbr.setCell (p := ⟨g, k, none⟩) hgw _).drew
        case ti => simp; exact hsz
        case td => simp [intOf]; omega
    · obtain rfl : k = 6 := by omega
      simp only [show ((6 : Nat) : Int) = 6 from rfl]
      have hinv0 : LeastInv M (s.sets 0) O := LeastInv.start hbM hO6 (fun i hi => by have := hO.out i hi; rw [if_pos hi] at this; exact this)
      obtain ⟨wo, rfl⟩ : ∃ wo : World, wo = wr := ⟨_, rfl⟩
      have hoA := ho.alloc (.cells #[.bool true] 4)
      have hyA := hy.alloc (.cells #[.bool true] 4)
      have hxA := hx.alloc (.cells #[.bool true] 4)
      have haA := BoxN.new wo 4 #[.bool true]
      have hbA := hbr.alloc hbr.size (.cells #[.bool true] 4)
      have hszA : (wo.alloc (.cells #[.bool true] 4)).heap.size = wo.heap.size + 1 := by simp
      clear ho hy hx hbr hO
      go_wp2_with fail
      generalize (wo.alloc (.cells #[.bool true] 4)) = wA at *
      have hgo : g < wo.heap.size := by omega
      go_loopg [10] (2 * pot O + 2) (fun m q wr => ∃ (ab : Nat) (O : List Int) (bg : Bool), q = .pointer (some ⟨ab, 0, none⟩) ∧ 2 * pot O + bg.toNat < m ∧ LeastInv M (s.sets 0) O ∧ Hid (bg = false → Stable M (s.sets 0) O) ∧ OwnAt wr g 3 (O.map (Value.int .i64)) ∧ BoxN wr w2.heap.size 23 #[.slice (some ⟨g, 0, none⟩) 6 co] ∧ BoxN wr w.heap.size 23 #[.slice (some ⟨b, off, none⟩) 6 cl] ∧ BoxN wr ab 4 #[.bool bg] ∧ Below w.heap.size w wr ∧ wo.heap.size ≤ ab)
      case atStart => exact ⟨wo.heap.size, O, true, by rw [show wo.heap.size = w2.heap.size + 1 by omega], by simp, hinv0, Lib.hid (fun e => by cases e), hoA, hyA, hxA, haA, hbA, Nat.le_refl _⟩
      case round =>
        clear hinv0 hoA hyA hxA haA hbA
        obtain ⟨ab, O, bg, rfl, hm, hinv, hst, ho, hy, hx, ha, hbr, hab⟩ := hrel
        have hal := ha.lt
        have c1 : wr.cell? ⟨ab, 0, none⟩ = some (.bool bg) := ha.cell rfl
        have c2 := ha.free 0
        cases bg with
        | true =>
          have hya := bool_ne_slice ha hy
          have hxa := bool_ne_slice ha hx
          have hga := ho.ne_box ha (by decide)
          have hm1 : 2 * pot O + 1 < gk := hm
          have h1 := (ho.far (a := ⟨ab, 0, none⟩) hga (.bool false))
          have h2 := (hy.other (a := ⟨ab, 0, none⟩) hya (.bool false))
          have h3 := (hx.other (a := ⟨ab, 0, none⟩) hxa (.bool false))
          have h4 := ha.set 0 (.bool false)
          have h5 : Below w.heap.size w (wr.setCell ⟨ab, 0, none⟩ (.bool false)) := hbr.setCell (p := ⟨ab, 0, none⟩) (by show w.heap.size ≤ ab; omega) _
          have hszW : (wr.setCell ⟨ab, 0, none⟩ (.bool false)).heap.size = wr.heap.size := by simp
          obtain ⟨O', b', hr⟩ : ∃ O' b', leastPass M (s.sets 0) (O, false) = (O', b') := ⟨_, _, rfl⟩
          have hrd := hinv.round hS hr
          clear ho hy hx ha hbr
          go_wp2_with fail
          generalize (wr.setCell ⟨ab, 0, none⟩ (.bool false)) = W at *
          have HE : Calls Tryd.prog 29 #[.slice A n c, .int .i64 ((n - 1 : Nat) : Int), .int .i64 0, .func (.func 41) #[] #[.pointer (some ⟨w2.heap.size, 0, none⟩), .pointer (some ⟨w.heap.size, 0, none⟩), .pointer (some ⟨ab, 0, none⟩)]] W fun e w' => e = .returned (.tuple #[]) ∧ LeastMem w W.heap.size w2.heap.size w.heap.size ab b off cl co g M O ([] ++ s.sets 0) w' ∧ KeepsUp W.heap.size W w' :=
            each_any (least_sees hgw (by omega) (by omega) (by omega) hya hxa hbw hL h6 hinv.len hT) h hs (by omega) 0 [] W (by decide) ⟨h5, Nat.le_refl _, h2, h3, h1, h4⟩
          clear c1 c2
          refine HE.mono ?_
          rintro e w5 ⟨rfl, hI, -⟩
          have hIr := hI.row
          have hIa := hI.again
          rw [List.nil_append, hr] at hIr hIa
          have c3 : w5.cell? ⟨ab, 0, none⟩ = some (.bool b') := hIa.cell rfl
          have hn1 := hIr.alloc (.cells #[.bool b'] 4)
          have hn2 := hI.out.alloc (.cells #[.bool b'] 4)
          have hn3 := hI.lev.alloc (.cells #[.bool b'] 4)
          have hn4 := BoxN.new w5 4 #[.bool b']
          have hn5 := hI.low.alloc hI.low.size (.cells #[.bool b'] 4)
          have hup := hI.up
          have Hst := Lib.hid hrd.2.1
          clear HE hI hIr hIa h1 h2 h3 h4 h5
          go_wp2_with fail
          go_roundg (2 * pot O + 1)
          case measure => exact hm1
          case rel => exact ⟨w5.heap.size, O', b', rfl, hrd.2.2, hrd.1, Hst, hn1, hn2, hn3, hn4, hn5, by omega⟩
        | false =>
          have hstab := hst.out rfl
          have hfc : fitsCode P n O = 0 := by
            unfold fitsCode
            rw [if_pos hc]
            unfold levCode
            rw [if_pos hinv.len, if_pos]
            rw [List.all_eq_true]
            intro x hx
            obtain ⟨j, hj, rfl⟩ := List.getElem_of_mem hx
            have := hinv.bd j (by rw [← hinv.len]; exact hj)
            have e : gI O j = O[j] := gI_of (List.getElem?_eq_getElem hj)
            rw [e] at this
            exact decide_eq_true this
          have CF := Lib.hid (fun (r : Bool) (hr : fitB O (s.sets 0) = r) => Fits_ok (c := c) (cl := co) (h.below (B := 0) hbr) ho.ints hfc hs (hT.next hbr) hr)
          rw [hinv.len] at CF
          have e2 : wr.cell? ⟨w2.heap.size, 0, none⟩ = some (.slice (some ⟨g, 0, none⟩) 6 co) := hy.cell rfl
          have Hinv := Lib.hid hinv
          have Hy := Lib.hid hy
          have Ho := Lib.hid ho
          clear hst hy hx ho ha hfc
          cases hr : fitB O (s.sets 0) with
          | true =>
            have CF1 := Lib.hid (CF.out true hr)
            go_wp2_with fail
            refine CF1.out.mono ?_
            rintro e w5 ⟨rfl, hb5⟩
            have e3 : w5.cell? ⟨w2.heap.size, 0, none⟩ = some (.slice (some ⟨g, 0, none⟩) 6 co) := (Hy.out.all hb5).cell rfl
            go_wp2_with fail
            go_ret2
            exact ⟨⟨O, Hinv.out, hstab, .inl ⟨hr, _, _, rfl, (Ho.out.all hb5).ints⟩⟩, hbr.trans (hb5.mono hbr.size)⟩
          | false =>
            have CF1 := Lib.hid (CF.out false hr)
            go_wp2_with fail
            refine CF1.out.mono ?_
            rintro e w5 ⟨rfl, hb5⟩
            go_wp2_with fail
            go_ret2
            exact ⟨⟨O, Hinv.out, hstab, .inr ⟨hr, rfl⟩⟩, hbr.trans (hb5.mono hbr.size)⟩
end Go.Proofs.YthaaekpnemhjoaaDoor
