/-
  Contract: kernel.fresh.
-/
import Derived.Test.YtgkanbaboeppfaaDoorKernE
import Derived.Test.YtgkanbaboeppfaaDoorPushOne
import Derived.Test.YtgkanbaboeppfaaDoorOver
import Derived.Test.YtgkanbaboeppfaaDoorBox
import Derived.Test.YtgkanbaboeppfaaDoorBut
import Derived.Laws.ResultCell
import Derived.Laws.Rows
import Derived.Deep.RegionHeld3
import Derived.Deep.CutRange
import Derived.Deep.RegionLaw
namespace Go.Proofs.YtgkanbaboeppfaaDoor
open Go.RowKit
set_option maxRecDepth 100000
set_option linter.unusedVariables false

theorem eRowsO : EInfo Tryd.prog 22 69 1 24 := EInfo.of (z := .slice none 0 0) Tryd.underlying22 (by kernel_rfl) rfl (by decide)
/-- What is known of a row of ops. -/
def OpsR (lo : Nat) (w : World) (A : Option Addr) (n : Nat) (l : List Int) : Prop := l.length = n * 3 ∧ n ≤ maxLen ∧ OwnIn lo w A 72 l
theorem op_ne_sys : (72 : TypeId) ≠ 26 := by decide
theorem op_ne_rows : (72 : TypeId) ≠ 69 := by decide
theorem port_ne_sys : (68 : TypeId) ≠ 26 := by decide
theorem int_ne_sys : (3 : TypeId) ≠ 26 := by decide
theorem SlVals.rows {lo : Nat} {w : World} {xs : List Value} {Ls : List (List Int)} {A : Option Addr} {n c : Nat} (h : SlVals (OpsR lo) w xs Ls) (ho : w.ownsRow lo 69 1 (.slice A n c) n xs) : RowsIn (fromB lo) 3 w A Ls := fun hne => by
  have hx : xs ≠ [] := by rintro rfl; exact hne (List.length_eq_zero_iff.1 h.1.symm)
  rcases ho.2 with ⟨_, h0⟩ | ⟨g, cap, cur, hv, hb, hg, hnc, _, hs, ht⟩
  · have := ho.1; rw [h0] at this; exact absurd (List.length_eq_zero_iff.1 (by simpa using this)) hx
  · have hA : A = some ⟨g, 0, none⟩ := by injection hv
    obtain ⟨b, off, hA2, hc⟩ := CellsAt.own ho hx
    rw [hA] at hA2
    injection hA2 with hA2
    injection hA2 with h1 h2
    subst h1; subst h2
    refine ⟨g, 0, hA, hb, fun i l hi => ?_⟩
    obtain ⟨Ai, ni, ci, h1, h2, h3, h4⟩ := h.2 i l hi
    exact ⟨Ai, ni, ci, hc i _ h1, h2, h3, h4.intsIn⟩
/-- A result that lies in a row. -/
theorem results_row1 {P : Program} {fn : Func} {p : Tmp} {ty : TypeId} (h : fn.results = #[.cell p ty]) (tmps : Array Value) (w : World) (g : Nat) (t : TypeId) (cs : Array Value) (fr : Nat × Nat) (d : TypeDesc)
    (hp : tmps.getD p undef = .pointer (some ⟨g, 0, none⟩)) (hg : w.heap[g]? = some (.cells cs t fr))
    (hu : P.underlying ty = some d) (hd : (match d with | .struct _ | .array _ _ => true | _ => false) = true) (hi : (P.info? ty).map (·.size) = some cs.size) :
    (results fn tmps).run P w = .ok (.agg cs) w := by
  have e : (results fn tmps).run P w = ((asAddr (tmps.getD p undef)).run P w).andThen fun a w₁ => (loadVar ty a).run P w₁ := by
    simp only [results, h]
    simp [Sem.run_bind, Result.andThen]
  rw [e, hp]
  simp [asAddr, Result.andThen, run_loadVar_row w g t ty cs fr d hg hu hd hi]
theorem rows_ne_sys : (69 : TypeId) ≠ 26 := by decide
theorem port_ne_rows : (68 : TypeId) ≠ 69 := by decide
theorem int_ne_rows : (3 : TypeId) ≠ 69 := by decide
theorem ownsRow_far {w : World} {base size n p : Nat} {e t : TypeId} {v : Value} {xs : List Value} {vs : Array Value} (h : w.ownsRow base e size v n xs) (hx : BoxN w p t vs) (ht : e ≠ t) (k : Nat) (u : Value) : (w.setCell ⟨p, k, none⟩ u).ownsRow base e size v n xs := by
  refine ⟨h.1, ?_⟩
  rcases h.2 with h0 | ⟨g, cap, cur, hv, hg, hc, r⟩
  · exact .inl h0
  · refine .inr ⟨g, cap, cur, hv, hg, (Below.heap_setCell w ⟨p, k, none⟩ u g fun e' => ?_).trans hc, r⟩
    have e' : g = p := e'
    subst e'
    have hx' : w.heap[g]? = some (.cells vs t (0, 0)) := hx
    rw [hc] at hx'
    injection hx' with hx'
    injection hx' with _ h2
    exact ht h2
theorem RowsIn.lower {lo lo' k : Nat} {w : World} {A : Option Addr} {Ls : List (List Int)} (h : RowsIn (fromB lo) k w A Ls) (hl : lo' ≤ lo) : RowsIn (fromB lo') k w A Ls := fun hne => by
  obtain ⟨b, off, e, hb, hc⟩ := h hne
  refine ⟨b, off, e, Nat.le_trans hl hb, fun i l hi => ?_⟩
  obtain ⟨Ai, ni, ci, h1, h2, h3, h4⟩ := hc i l hi
  exact ⟨Ai, ni, ci, h1, h2, h3, h4.mono fun b _ hb => Nat.le_trans hl hb⟩
theorem RowsIn.set {lo k : Nat} {w : World} {A : Option Addr} {Ls : List (List Int)} (h : RowsIn (fromB lo) k w A Ls) {b i : Nat} (hb : b < lo) (v : Value) : RowsIn (fromB lo) k (w.setCell ⟨b, i, none⟩ v) A Ls := h.keep fun g _ hg => Below.heap_setCell w ⟨b, i, none⟩ v g (by have : lo ≤ g := hg; show g ≠ b; omega)
theorem belowSet {B : Nat} {w w' : World} (h : Below B w w') {b k : Nat} (hb : B ≤ b) (v : Value) : Below B w (w'.setCell ⟨b, k, none⟩ v) := h.setCell (p := ⟨b, k, none⟩) hb v

set_option maxHeartbeats 4000000 in
theorem fresh_any {w : World} {Ap Ao At : Option Addr} {L : List (List Int)} {P T : List Int} {q n m cp co ct : Nat} (hL : RowsIn anyB 3 w Ap L) (hP : IntsIn anyB w Ao P) (hl : P.length = q * 2) (hT : IntsIn anyB w At T)
    (hn : L.length = n) (hm : T.length = m) (nm : n ≤ 100) (hq : q ≤ 100) (tm : m ≤ 100) (hs : ∀ l ∈ L, l.length ≤ 300) :
    Calls Tryd.prog 19 #[.agg #[.slice Ap n cp, .slice Ao q co, .slice At m ct]] w
      fun e w' => (∃ Ap' Ao' At' cp' co' ct', e = .returned (.agg #[.slice Ap' n cp', .slice Ao' q co', .slice At' m ct']) ∧ RowsIn (fromB w.heap.size) 3 w' Ap' L ∧ OwnIn w.heap.size w' Ao' 68 P ∧ OwnIn w.heap.size w' At' 3 T) ∧ Below w.heap.size w w' := by
  have K1 := Lib.hid (fun V (hV : Below w.heap.size w V) => (CloneP_new P q hl Ao co V (hP.below' hV (Nat.le_refl _)).at_ (by omega)).mono fun e w' ⟨he, hb⟩ => (⟨he, hb, hV.trans (hb.mono hV.size)⟩ : _ ∧ Below V.heap.size V w' ∧ Below w.heap.size w w'))
  have K2 := Lib.hid (fun V (hV : Below w.heap.size w V) => (CloneI_new T m (by omega) At ct V (hT.below' hV (Nat.le_refl _)).at_ (by omega)).mono fun e w' ⟨he, hb⟩ => (⟨he, hb, hV.trans (hb.mono hV.size)⟩ : _ ∧ Below V.heap.size V w' ∧ Below w.heap.size w w'))
  go_enter Tryd.func19, Tryd.ntmps19
  have hb0 := (BoxN.new w 26 #[.slice Ap n cp, .slice Ao q co, .slice At m ct]).alloc (.cells #[.slice none 0 0, .slice none 0 0, .slice none 0 0] 26)
  have hr0 := BoxN.new (w.alloc (.cells #[.slice Ap n cp, .slice Ao q co, .slice At m ct] 26)) 26 #[.slice none 0 0, .slice none 0 0, .slice none 0 0]
  have hbW := ((Below.refl w.heap.size w).alloc (Nat.le_refl _) (.cells #[.slice Ap n cp, .slice Ao q co, .slice At m ct] 26)).alloc (by simp) (.cells #[.slice none 0 0, .slice none 0 0, .slice none 0 0] 26)
  have hsz1 : (w.alloc (.cells #[.slice Ap n cp, .slice Ao q co, .slice At m ct] 26)).heap.size = w.heap.size + 1 := by simp
  have hsz2 : ((w.alloc (.cells #[.slice Ap n cp, .slice Ao q co, .slice At m ct] 26)).alloc (.cells #[.slice none 0 0, .slice none 0 0, .slice none 0 0] 26)).heap.size = w.heap.size + 2 := by simp
  rw [hsz1] at hr0
  go_wp2_with fail
  generalize (w.alloc (.cells #[.slice Ap n cp, .slice Ao q co, .slice At m ct] 26)).alloc (.cells #[.slice none 0 0, .slice none 0 0, .slice none 0 0] 26) = W1 at *
  clear hsz1
  have hKeep := Lib.hid (fun V (hV : Below W1.heap.size W1 V) => (⟨(hb0.all hV).cell (k := 1) rfl, (hb0.all hV).cell (k := 2) rfl⟩ : V.cell? ⟨w.heap.size, 1, none⟩ = some (.slice Ao q co) ∧ V.cell? ⟨w.heap.size, 2, none⟩ = some (.slice At m ct)))
  have x1 := hb0.cell (k := 1) rfl
  have x2 := hb0.cell (k := 2) rfl
  have hsW := Lib.hid hsz2
  clear hsz2
  have K1' := Lib.hid (fun V (hV : Below W1.heap.size W1 V) => (K1.out V (hbW.trans (hV.mono (by have := hsW.out; omega)))).mono fun e w' ⟨he, hb, _⟩ => (⟨he, hb, hV.trans (hb.mono hV.size)⟩ : _ ∧ Below V.heap.size V w' ∧ Below W1.heap.size W1 w'))
  have K2' := Lib.hid (fun V (hV : Below W1.heap.size W1 V) => (K2.out V (hbW.trans (hV.mono (by have := hsW.out; omega)))).mono fun e w' ⟨he, hb, _⟩ => (⟨he, hb, hV.trans (hb.mono hV.size)⟩ : _ ∧ Below V.heap.size V w' ∧ Below W1.heap.size W1 w'))
  clear K1 K2
  have hZ : BoxN ((W1.alloc (.cells #[.slice none 0 0, .slice none 0 0, .slice none 0 0] 26)).drew) W1.heap.size 26 #[.slice none 0 0, .slice none 0 0, .slice none 0 0] := (BoxN.new W1 _ _).drew
  go_cut [3] from 6 to 13 (fun x3 wx => ∃ p Ao' At' co' ct', x3 = .pointer (some ⟨p, 0, none⟩) ∧ W1.heap.size ≤ p ∧ BoxN wx p 26 #[.slice none 0 0, .slice Ao' q co', .slice At' m ct'] ∧ OwnIn W1.heap.size wx Ao' 68 P ∧ OwnIn W1.heap.size wx At' 3 T ∧ Below W1.heap.size W1 wx)
  case first =>
    go_region_held3 (fun V => V.cell? ⟨w.heap.size, 1, none⟩ = some (.slice Ao q co) ∧ V.cell? ⟨w.heap.size, 2, none⟩ = some (.slice At m ct))
      ((refine hKeep.out _ ?_; repeat (first | assumption | exact Below.refl _ _ | refine Below.setCell ?_ (by first | assumption | exact Nat.le_refl _ | (simp; done) | (simp; omega)) _ | refine Below.alloc ?_ (by first | exact Nat.le_refl _ | assumption) _ | refine Below.drew ?_)))
      ((first | (go_at_call 34; with_reducible refine (K1'.out _ (by repeat (first | assumption | exact Below.refl _ _ | refine Below.alloc ?_ (by first | exact Nat.le_refl _ | assumption) _ | refine Below.drew ?_))).mono ?_; rintro e w1 ⟨⟨A1, c1, rfl, i1⟩, hb1, hbw1⟩; have hs1 := hbw1.size; try (have hz1 := BoxN.all hZ hb1)) | (go_at_call 22; with_reducible refine (K2'.out _ (by repeat (first | assumption | exact Below.refl _ _ | refine Below.alloc ?_ (by first | exact Nat.le_refl _ | assumption) _ | refine Below.drew ?_))).mono ?_; rintro e w2 ⟨⟨A2, c2, rfl, i2⟩, hb2, hbw2⟩; have hs2 := hbw2.size; first | (have hz2 := BoxN.all hz1 hb2; have z0 := hz2.cell (k := 0) rfl; have z1 := hz2.cell (k := 1) rfl; have z2 := hz2.cell (k := 2) rfl; have fz0 := hz2.free 0; have fz1 := hz2.free 1; have fz2 := hz2.free 2) | (have hz2 := BoxN.all (BoxN.new w1 26 #[.slice none 0 0, .slice none 0 0, .slice none 0 0]) hb2; have z0 := hz2.cell (k := 0) rfl; have z1 := hz2.cell (k := 1) rfl; have z2 := hz2.cell (k := 2) rfl; have fz0 := hz2.free 0; have fz1 := hz2.free 1; have fz2 := hz2.free 2) | skip)))
    all_goals (go_wp2_with fail; go_meet)
    · exact ⟨_, A1, A2, c1, c2, rfl, hs2, BoxN.new _ _ _, (i1.below' hb2 (Nat.le_refl _)).below' ((Below.refl w2.heap.size w2).alloc (Nat.le_refl _) _) (Nat.le_refl _), (i2.lower hs1).below' ((Below.refl w2.heap.size w2).alloc (Nat.le_refl _) _) (Nat.le_refl _), hbw2.alloc hs2 _⟩
    · have hsz : (w1.alloc (.cells #[.slice none 0 0, .slice none 0 0, .slice none 0 0] 26)).heap.size = w1.heap.size + 1 := by simp
      rw [hsz] at i2
      have hb12 : Below w1.heap.size w1 w2 := ((Below.refl w1.heap.size w1).alloc (Nat.le_refl _) _).trans (hb2.mono (by omega))
      have q0 := hz2.set 0 (.slice none 0 0)
      have q1 := q0.set 1 (.slice A1 q c1)
      exact ⟨_, A1, A2, c1, c2, rfl, hs1, q1.set 2 _, i1.below' (belowSet (belowSet (belowSet hb12 (Nat.le_refl _) _) (Nat.le_refl _) _) (Nat.le_refl _) _) (Nat.le_refl _), (((i2.set hz2 int_ne_sys 0 _).set q0 int_ne_sys 1 _).set q1 int_ne_sys 2 _).lower (by omega), belowSet (belowSet (belowSet hbw2 hs1 _) hs1 _) hs1 _⟩
    · have hsz : (W1.alloc (.cells #[.slice none 0 0, .slice none 0 0, .slice none 0 0] 26)).drew.heap.size = W1.heap.size + 1 := by simp
      rw [hsz] at i1
      have i1' := i1.below' hb2 (Nat.le_refl _)
      have q0 := hz2.set 0 (.slice none 0 0)
      have q1 := q0.set 1 (.slice A1 q c1)
      exact ⟨_, A1, A2, c1, c2, rfl, Nat.le_refl _, q1.set 2 _, (((i1'.set hz2 port_ne_sys 0 _).set q0 port_ne_sys 1 _).set q1 port_ne_sys 2 _).lower (by omega), (((i2.set hz2 int_ne_sys 0 _).set q0 int_ne_sys 1 _).set q1 int_ne_sys 2 _).lower hs1, belowSet (belowSet (belowSet hbw2 (Nat.le_refl _) _) (Nat.le_refl _) _) (Nat.le_refl _) _⟩
  case rest =>
    obtain ⟨p, Ao', At', co', ct', rfl, hp, hx, i1, i2, hbx⟩ := hcut
    have hb0' := hb0.all hbx
    have hr0' := hr0.all hbx
    have x0 := hb0'.cell (k := 0) rfl
    clear hKeep K1' K2' hZ x1 x2 hb0 hr0
    have hwx := hbW.trans (hbx.mono (by have := hsW.out; omega))
    have hpx := hx.lt
    have HC := Lib.hid (fun (V : World) (A : Option Addr) (l : List Int) (ni ci : Nat) (h1 : l.length = ni * 3) (h2 : IntsAt V A l) (h3 : ni ≤ 1000000) => CloneO_new l ni h1 A ci V h2 h3)
    have HsL := Lib.hid (fun (i : Nat) (hi : i < L.length) => hs (L.getD i []) (by rw [List.getD_eq_getElem?_getD, List.getElem?_eq_getElem hi]; exact List.getElem_mem hi))
    have HW1 := Lib.hid (show w.heap.size ≤ W1.heap.size by have := hsW.out; omega)
    have HR := Lib.hid hr0'
    clear hbx hb0' hr0' hs hbW
    go_wp2_with fail
    clear x0
    go_loopw [16] (fun i wr => ∃ (j : Nat) (v : Value) (xs : List Value), j ≤ n ∧ i = .int .i64 j ∧ BoxN wr p 26 #[v, .slice Ao' q co', .slice At' m ct'] ∧ wr.ownsRow wc.heap.size 69 1 v j xs ∧ SlVals (OpsR wc.heap.size) wr xs (L.take j) ∧ OwnIn W1.heap.size wr Ao' 68 P ∧ OwnIn W1.heap.size wr At' 3 T ∧ KeepsBut p wc wr ∧ Below w.heap.size w wr ∧ wc.heap.size ≤ wr.heap.size) (fun i _ => n - (intOf i).toNat)
    case atStart => exact ⟨0, _, [], Nat.zero_le _, rfl, hx, World.ownsRow_nil _ _ _ _, by simpa using SlVals.nil, i1, i2, KeepsBut.refl _ _, hwx, Nat.le_refl _⟩
    case round =>
      clear hx i1 i2 hwx
      obtain ⟨j, v, xs, hj, rfl, hx, hown, hvs, i1, i2, hkb, hbr, hsz⟩ := hrel
      by_cases hlt : j < n
      · obtain ⟨b, off, Ai, ni, ci, rfl, c0, hli, hni, hi⟩ := (hL.below hbr).get (i := j) (by omega)
        have hsl := HsL.out j (by omega)
        have htk : L.take (j + 1) = L.take j ++ [L.getD j []] := by
          rw [List.take_add_one, List.getD_eq_getElem?_getD, List.getElem?_eq_getElem (by omega)]; rfl
        generalize L.getD j [] = l at *
        have HC2 := Lib.hid (fun V (hV : Below wr.heap.size wr V) => (HC.out V Ai l ni ci hli (hi.below' hV (Nat.le_refl _)).at_ (by omega)).mono fun e w' ⟨he, hb⟩ => (⟨he, hb, hV.trans (hb.mono hV.size)⟩ : _ ∧ Below V.heap.size V w' ∧ Below wr.heap.size wr w'))
        have hxl := hx.lt
        have xv := hx.cell (k := 0) rfl
        have Htk := Lib.hid htk
        clear hi htk
        go_wp2_with fail
        go_region_law ((first | (go_simp; go_at_call 35; with_reducible refine (HC2.out _ (by repeat (first | exact Below.refl _ _ | refine Below.drew ?_ | refine Below.alloc ?_ (Nat.le_refl _) _))).mono ?_; rintro e w1 ⟨⟨A1, c1, rfl, o1⟩, hb1, hbw1⟩; have xo := (hx.all hbw1).cell (k := 0) rfl; have fo := (hx.all hbw1).free 0; have xa := ((hx.all hbw1).alloc (.cells #[.slice A1 ni c1] 69)).cell (k := 0) rfl) | (refine step_push_one eRowsO (by decide) (by rfl) _ _ (by rfl) (by rfl) (ownsRow_below hown (hbw1.alloc hbw1.size _) (Nat.le_refl _)) w1.heap.size (.slice A1 ni c1) (by rfl) (by rfl) (cell_of_row _ _ 0 _ _ _ (heap_alloc_new w1 _)) (by omega) (by have := hbw1.size; simp; omega) ?_; intro B' cc w' hown' hgr hbl; have hbf := hbl wr ((hbw1.alloc hbw1.size _).mono hsz); have hx' := hx.below hbf hpx; have xo' := hx'.cell (k := 0) rfl; have fo' := hx'.free 0)))
        all_goals
          go_wp2_with fail
          have hlo : wc.heap.size ≤ w1.heap.size := Nat.le_trans hsz hbw1.size
          have hba := hbw1.alloc hbw1.size (.cells #[.slice A1 ni c1] 69)
          have howr := ownsRow_below hown hba (Nat.le_refl _)
          have hvs1 : SlVals (OpsR wc.heap.size) (w'.setCell ⟨p, 0, none⟩ (.slice B' (j + 1) cc)) (xs ++ [.slice A1 ni c1]) (L.take (j + 1)) := by
            rw [Htk.out]
            exact (hvs.keep fun A n l ⟨r1, r2, r3⟩ => ⟨r1, r2, ((r3.below' hba (Nat.le_refl _)).grown hgr howr op_ne_rows).set hx' op_ne_sys _ _⟩).push ⟨hli, by omega, (((o1.lower (Nat.le_trans hsz (by simp))).below' ((Below.refl _ _).alloc (Nat.le_refl _) _) (Nat.le_refl _)).grown hgr howr op_ne_rows).set hx' op_ne_sys _ _⟩
          refine ⟨⟨j + 1, _, _, ?ya, ?yb, hx'.set 0 _, ?yc, hvs1, ?ye, ?yf, ?yg, ?yh, ?yi⟩, ?yd⟩
          case ya => omega
          case yb => go_num
          case yc => exact ownsRow_far hown' hx' rows_ne_sys 0 _
          case yd => simp [intOf]; omega
          case ye => exact ((i1.below' hba (Nat.le_refl _)).grown hgr howr port_ne_rows).set hx' port_ne_sys _ _
          case yf => exact ((i2.below' hba (Nat.le_refl _)).grown hgr howr int_ne_rows).set hx' int_ne_sys _ _
          case yg => exact KeepsBut.setCell ⟨Nat.le_trans hsz hbf.size, fun b hb hl => (hbf.block b hl).trans (hkb.block b hb hl)⟩ 0 _
          case yh => exact belowSet (hbr.trans (hbf.mono (Nat.le_trans HW1.out (Nat.le_trans hp (Nat.le_of_lt hpx))))) (Nat.le_trans HW1.out hp) _
          case yi => simp; exact Nat.le_trans hsz hbf.size
      · obtain rfl : j = n := by omega
        have hpw : w.heap.size + 1 ≠ p := by have := hsW.out; omega
        have hZ := hkb.box HR.out hpw
        have x0 := hx.cell (k := 0) rfl
        have x1 := hx.cell (k := 1) rfl
        have x2 := hx.cell (k := 2) rfl
        have z0 := hZ.cell (k := 0) rfl
        have z1 := hZ.cell (k := 1) rfl
        have z2 := hZ.cell (k := 2) rfl
        have fz0 := hZ.free 0
        have fz1 := hZ.free 1
        have fz2 := hZ.free 2
        obtain ⟨A', c', rfl⟩ := ownsRow_form hown
        go_wp2_with fail
        have q0 := hZ.set 0 (.slice A' j c')
        have q1 := q0.set 1 (.slice Ao' q co')
        have hR := q1.set 2 (.slice At' m ct')
        refine bodyPost_ret (results_row1 rfl _ _ (w.heap.size + 1) 26 #[.slice A' j c', .slice Ao' q co', .slice At' m ct'] (0, 0) _ rfl hR Tryd.underlying26 rfl (by kernel_rfl)) rfl ?_
        have htk : L.take j = L := by rw [List.take_of_length_le (by omega)]
        rw [htk] at hvs
        have hlo : w.heap.size ≤ wc.heap.size := Nat.le_trans HW1.out (Nat.le_trans hp (Nat.le_of_lt hpx))
        refine ⟨⟨A', Ao', At', c', co', ct', rfl, ?_, ?_, ?_⟩, ?_⟩
        · have hlo2 : w.heap.size + 1 < wc.heap.size := Nat.lt_of_lt_of_le (by have := hsW.out; omega) (Nat.le_trans hp (Nat.le_of_lt hpx))
          exact ((((hvs.rows hown).set hlo2 _).set hlo2 _).set hlo2 _).lower hlo
        · exact (((i1.lower HW1.out).set hZ port_ne_sys 0 _).set q0 port_ne_sys 1 _).set q1 port_ne_sys 2 _
        · exact (((i2.lower HW1.out).set hZ int_ne_sys 0 _).set q0 int_ne_sys 1 _).set q1 int_ne_sys 2 _
        · exact belowSet (belowSet (belowSet hbr (by omega) _) (by omega) _) (by omega) _
end Go.Proofs.YtgkanbaboeppfaaDoor
