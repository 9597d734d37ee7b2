/-
  The reference's kept: its state; where nothing is kept; at Set.
  Contracts: quietwingref2.kept, whole. (Printed by tools/keptgen.py.)
  Contracts: quietwingref2.Table, quietwingref2.Cut.
-/
import Derived.Test.YtdgncngkalgknaaDoorRsE
namespace Go.Proofs.YtdgncngkalgknaaDoor
open Go.RowKit Go.Maps
set_option maxRecDepth 100000
set_option linter.unusedVariables false
/-- The list so far and the table. -/
structure KAt (P : List Int) (n0 B tb : Nat) (S : Nat → Prop) (v : Value) (n : Nat) (o : List Int) (T : List Int) (w : World) : Prop where
  out : OutAt B S v n o w
  tab : TabAt P n0 B tb T w
  nt : ¬ S tb
/-- What a function leaves. -/
def KTo (P : List Int) (n0 B tb : Nat) (S : Nat → Prop) (v : Value) (n : Nat) (o : List Int) (w w' : World) : Prop :=
  ∃ S' T', KAt P n0 B tb S' v n o T' w' ∧ (∀ b, (S' b ∨ b = tb) → (S b ∨ b = tb) ∨ w.heap.size ≤ b) ∧ QKeeps (fun b => S b ∨ b = tb) w w'
theorem QKeeps.wider {S S' : Nat → Prop} {w w' : World} (h : QKeeps S w w') (hs : ∀ b, S b → S' b) : QKeeps S' w w' := ⟨h.os, h.tape, h.output, h.size, fun b hb hn => h.block b hb (fun e => hn (hs b e))⟩
section
variable {P : List Int} {n0 B tb : Nat} {S S1 : Nat → Prop} {v v' : Value} {n n' : Nat} {o o' T : List Int} {w w1 w2 w' : World}
theorem KAt.below (h : KAt P n0 B tb S v n o T w) (hb : Below w.heap.size w w') : KAt P n0 B tb S v n o T w' := ⟨h.out.below hb, h.tab.below hb, h.nt⟩
theorem KAt.off (h : KAt P n0 B tb S v n o T w) {p : Addr} (hp : ¬ (S p.block ∨ p.block = tb)) (x : Value) : KAt P n0 B tb S v n o T (w.setCell p x) :=
  ⟨h.out.keep (by simp) (fun b hb => Below.heap_setCell _ _ _ _ (fun e => hp (.inl (e ▸ hb)))), h.tab.keep (Below.heap_setCell _ _ _ _ (fun e => hp (.inr e.symm))), h.nt⟩
theorem KAt.ahead (h : KAt P n0 B tb S v n o T w) (ht : TabTo P n0 B tb w w') : KTo P n0 B tb S v n o w w' := by
  obtain ⟨T', k, kQ⟩ := ht
  exact ⟨S, T', ⟨h.out.keep kQ.size (fun b hb => kQ.block b (h.out.lt b hb) (fun e => h.nt (e ▸ hb))), k, h.nt⟩, fun b hb => .inl hb, kQ.wider (fun b e => .inr e)⟩
theorem KAt.placed (h : KAt P n0 B tb S v n o T w) (ht : OutTo B S v' n' o' w w') : KTo P n0 B tb S v' n' o' w w' := by
  obtain ⟨S', k, kS, kQ⟩ := ht
  refine ⟨S', T, ⟨k, h.tab.keep (kQ.block tb h.tab.row.lt h.nt), fun e => (kS tb e).elim h.nt (fun e => by have := h.tab.row.lt; omega)⟩, ?_, kQ.wider (fun b e => .inl e)⟩
  rintro b (e | e)
  · exact (kS b e).elim (fun e => .inl (.inl e)) .inr
  · exact .inl (.inr e)
theorem KTo.trans (hQ : QKeeps (fun b => S b ∨ b = tb) w w1) (hS1 : ∀ b, (S1 b ∨ b = tb) → (S b ∨ b = tb) ∨ w.heap.size ≤ b) (h : KTo P n0 B tb S1 v n o w1 w2) : KTo P n0 B tb S v n o w w2 := by
  obtain ⟨S', T', k, kS, kQ⟩ := h
  exact ⟨S', T', k, fun b hb => (kS b hb).elim (hS1 b) (fun e => .inr (Nat.le_trans hQ.size e)), hQ.trans kQ hS1⟩
theorem KTo.cast (h : KTo P n0 B tb S v n o w w') (e : n = n') : KTo P n0 B tb S v n' o w w' := e ▸ h
theorem KAt.to_below (h : KAt P n0 B tb S v n o T w) (hk : QKeeps (fun b => S b ∨ b = tb) w w') {w0 : World} (hb : Below B w0 w) : Below B w0 w' :=
  hk.to_below (fun b e => e.elim (h.out.low b) (fun e => e ▸ h.tab.low)) hb (by have := h.tab.low; have := h.tab.row.lt; omega)
theorem KAt.base (h : KAt P n0 B tb S v n o T w) : B ≤ w.heap.size := by have := h.tab.low; have := h.tab.row.lt; omega
theorem KAt.new (h : KAt P n0 B tb S v n o T w) : ¬ (S w.heap.size ∨ w.heap.size = tb) := by
  rintro (e | e)
  · exact Nat.lt_irrefl _ (h.out.lt _ e)
  · have := h.tab.row.lt; omega
theorem KAt.new1 (h : KAt P n0 B tb S v n o T w) : ¬ (S (w.heap.size + 1) ∨ w.heap.size + 1 = tb) := by
  rintro (e | e)
  · have := h.out.lt _ e; omega
  · have := h.tab.row.lt; omega
end
/-- What kept leaves. -/
def KK (P : List Int) (n0 B tb : Nat) (S : Nat → Prop) (n : Nat) (o : List Int) (w : World) (t : Option RS) (e : Ending) (w' : World) : Prop :=
  ∃ v', e = .returned v' ∧ match t with
    | none => KTo P n0 B tb S v' n o w w'
    | some t => KTo P n0 B tb S v' (n + t.cnt) (o ++ t.lay n) w w'
def kres (s : RS) (u : Nat) (must : Bool) : Option RS := if must then some ((s.cut u).getD .skip) else s.cut u
theorem kres_some {s t : RS} {u : Nat} (h : s.cut u = some t) (must : Bool) : kres s u must = some t := by unfold kres; rw [h]; cases must <;> rfl
def RKeptOk (P : List Int) (A0 : Option Addr) (n0 c0 B tb ct : Nat) (w0 : World) (i : Nat) (s : RS) : Prop := ∀ (w : World) (S : Nat → Prop) (v : Value) (n : Nat) (o T : List Int) (u : Nat) (must : Bool), KAt P n0 B tb S v n o T w → Below B w0 w → u < 64 → n + s.cnt ≤ 1000 →
  Calls Tryd.prog 50 #[v, .slice A0 n0 c0, .slice (some ⟨tb, 0, none⟩) (64 * n0) ct, .int .i64 i, .int .i64 u, .bool must] w (KK P n0 B tb S n o w (kres s u must))
section
variable {P : List Int} {A0 : Option Addr} {n0 c0 B tb ct : Nat} {w0 : World} {i : Nat}
set_option maxHeartbeats 4000000 in
theorem kept_none {s : RS} (hn : RAheadOk P A0 n0 c0 B tb ct w0 i s.st) {w : World} {S : Nat → Prop} {v : Value} {n : Nat} {o T : List Int} {u : Nat} (must : Bool) (h : KAt P n0 B tb S v n o T w) (hw : Below B w0 w) (hu : u < 64) (hcn : n + s.cnt ≤ 1000) (hc : (s.st.need u).2 = false) :
    Calls Tryd.prog 50 #[v, .slice A0 n0 c0, .slice (some ⟨tb, 0, none⟩) (64 * n0) ct, .int .i64 i, .int .i64 u, .bool must] w (KK P n0 B tb S n o w (kres s u must)) := by
  have hp := s.pos
  have hr : kres s u must = if must then some .skip else none := by unfold kres; rw [rcut_none hc]; rfl
  rw [hr]
  have C1 := hn w T u h.tab hw hu
  rw [hc] at C1
  have HC1 := Lib.hid C1
  have H := Lib.hid h
  have hn40 : Hid (n < 2 ^ 40) := Lib.hid (by omega)
  obtain ⟨Av, cv, rfl⟩ := h.out.own.form
  clear C1 hn h hw hc hr
  generalize (s.st.need u).1 = vv at *
  cases must with
  | false =>
    show Calls _ _ _ w fun e w' => ∃ v', e = .returned v' ∧ KTo P n0 B tb S v' n o w w'
    go_enter Tryd.func50, Tryd.ntmps50
    go_wp2_with fail
    refine HC1.out.mono ?_
    rintro e w2 ⟨rfl, ht⟩
    have HT := Lib.hid (H.out.ahead ht)
    clear HC1 ht
    go_wp2_with fail
    go_ret
    exact ⟨_, rfl, HT.out⟩
  | true =>
    show Calls _ _ _ w fun e w' => ∃ v', e = .returned v' ∧ KTo P n0 B tb S v' (n + 1) (o ++ [5, 0, 0, 0, 0]) w w'
    go_enter Tryd.func50, Tryd.ntmps50
    go_wp2_with fail
    refine HC1.out.mono ?_
    rintro e w2 ⟨rfl, ht⟩
    obtain ⟨S2, T2, k2, kS2, kQ2⟩ := H.out.ahead ht
    have hbA : Below w2.heap.size w2 (w2.alloc (.cells #[.int .i64 5, .int .i64 0, .int .i64 0, .int .i64 0, .int .i64 0] 51)) := (Below.refl _ _).alloc (Nat.le_refl _) _
    have hoA := Lib.hid ((k2.out.below hbA).own)
    have hgA := Lib.hid (BoxN.new w2 51 #[.int .i64 5, .int .i64 0, .int .i64 0, .int .i64 0, .int .i64 0])
    have hlow : Hid (B ≤ (w2.alloc (.cells #[.int .i64 5, .int .i64 0, .int .i64 0, .int .i64 0, .int .i64 0] 51)).heap.size) := Lib.hid (by have := hbA.size; have := k2.base; omega)
    have hQA := Lib.hid (QKeeps.of_below (S := S2) hbA)
    have K2 := Lib.hid k2
    have HS2 := Lib.hid kS2
    have HQ2 := Lib.hid kQ2
    clear HC1 ht k2 kS2 kQ2 hbA
    go_wp2_with (at_builtin; refine wpList_push_nodeB rfl _ _ rfl rfl hoA.out w2.heap.size 5 0 0 0 0 rfl hgA.out hn40.out hlow.out ?_; intro B' c' w3 ho3 hbk3 hgr3)
    have HT := Lib.hid (KTo.trans HQ2.out HS2.out (K2.out.placed (out_end hQA.out K2.out.out K2.out.base ho3 hbk3 hgr3)))
    clear ho3 hbk3 hgr3
    go_wp2_with fail
    go_ret
    exact ⟨_, rfl, HT.out⟩
end
end Go.Proofs.YtdgncngkalgknaaDoor

namespace Go.Proofs.YtdgncngkalgknaaDoor
open Go.RowKit Go.Maps
set_option maxRecDepth 100000
set_option linter.unusedVariables false
theorem rcut_isSome (r : RS) (u : Nat) : (r.cut u).isSome = (r.st.need u).2 := by rw [← cut_isSome, ← r.cut_st]; cases r.cut u <;> rfl
section
variable {P : List Int} {A0 : Option Addr} {n0 c0 B tb ct : Nat} {w0 : World} {i : Nat}
set_option maxHeartbeats 4000000 in
theorem kept_set {x1 x3 x4 : Int} {x : RE} (hN : NodesAt w0 A0 P n0) (hB : B = w0.heap.size) (hi : i < n0) (h0 : nd P i 0 = 6) (hn : RAheadOk P A0 n0 c0 B tb ct w0 i (RS.set x1 x3 x4 x).st) (hcp : RPlacedOk P A0 n0 c0 B w0 i (RS.set x1 x3 x4 x).cnt (RS.set x1 x3 x4 x).lay) : RKeptOk P A0 n0 c0 B tb ct w0 i (.set x1 x3 x4 x) := by
  intro w S v n o T u must h hw hu hcn
  cases hany : ((RS.set x1 x3 x4 x).st.need u).2 with
  | false => exact kept_none hn must h hw hu hcn hany
  | true =>
    have hcut : (RS.set x1 x3 x4 x).cut u = some (.set x1 x3 x4 x) := by
      have hc : ((RS.set x1 x3 x4 x).st.need u).2 = true := hany
      simp only [RS.st, St.need] at hc
      simp only [RS.cut]
      split at hc
      · rename_i e; rw [if_pos e]
      · cases hc
    rw [kres_some hcut]
    have C1 := hn w T u h.tab hw hu
    rw [hany] at C1
    show Calls _ _ _ w fun e w' => ∃ v', e = .returned v' ∧ KTo P n0 B tb S v' (n + (RS.set x1 x3 x4 x).cnt) (o ++ (RS.set x1 x3 x4 x).lay n) w w'
    generalize ((RS.set x1 x3 x4 x).st.need u).1 = vv at *
    have HP := Lib.hid (fun (W : World) (S2 : Nat → Prop) (hc : OutAt B S2 v n o W) (hW : Below B w0 W) => hcp W S2 v n o hc hW hcn)
    have HC1 := Lib.hid C1
    have HN := Lib.hid hN
    have HW := Lib.hid hw
    have H := Lib.hid h
    have HBe := Lib.hid hB
    have HBl := Lib.hid h.base
    obtain ⟨Av, cv, rfl⟩ := h.out.own.form
    clear C1 hn h hw hany hcp hN hB hcut
    generalize (RS.set x1 x3 x4 x).lay = lay at *
    generalize (RS.set x1 x3 x4 x).cnt = cnt at *
    go_enter Tryd.func50, Tryd.ntmps50
    go_wp2_with fail
    refine HC1.out.mono ?_
    rintro e w2 ⟨rfl, ht⟩
    obtain ⟨S2, T2, k2, kS2, kQ2⟩ := H.out.ahead ht
    have hw2 := H.out.to_below kQ2 HW.out
    obtain ⟨ba, offa, hA0, p0, p1, p2, p3, p4⟩ := (HN.out.below (B := 0) (HBe.out ▸ hw2)).cells hi
    subst hA0
    rw [h0] at p0
    have hin := HN.out.small
    generalize nd P i 1 = y1 at *
    generalize nd P i 2 = y2 at *
    generalize nd P i 3 = y3 at *
    generalize nd P i 4 = y4 at *
    have hb2 : Below w2.heap.size w2 ((w2.alloc (.cells #[.int .i64 6, .int .i64 y1, .int .i64 y2, .int .i64 y3, .int .i64 y4] 51)).alloc (.cells #[.int .i64 6, .int .i64 0, .int .i64 0, .int .i64 0, .int .i64 0] 51)) := below_two _ _
    have hx3 := (BoxN.new w2 51 #[.int .i64 6, .int .i64 y1, .int .i64 y2, .int .i64 y3, .int .i64 y4]).alloc (.cells #[.int .i64 6, .int .i64 0, .int .i64 0, .int .i64 0, .int .i64 0] 51)
    have hy3 := BoxN.new (w2.alloc (.cells #[.int .i64 6, .int .i64 y1, .int .i64 y2, .int .i64 y3, .int .i64 y4] 51)) 51 #[.int .i64 6, .int .i64 0, .int .i64 0, .int .i64 0, .int .i64 0]
    rw [show (w2.alloc (.cells #[.int .i64 6, .int .i64 y1, .int .i64 y2, .int .i64 y3, .int .i64 y4] 51)).heap.size = w2.heap.size + 1 by simp] at hy3
    have hx0 := (BoxN.new w2 51 #[.int .i64 6, .int .i64 y1, .int .i64 y2, .int .i64 y3, .int .i64 y4]).cell (k := 0) rfl
    have Hx3 := Lib.hid hx3
    have Hy3 := Lib.hid hy3
    have Hnx3 := Lib.hid k2.new
    have Hny3 := Lib.hid k2.new1
    have K3 := Lib.hid (k2.below hb2)
    have HW3 := Lib.hid (hw2.trans (hb2.mono k2.base))
    have HQ3 := Lib.hid (kQ2.trans (QKeeps.of_below (S := fun _ => False) hb2) (fun b hb => hb.elim))
    have HS3 := Lib.hid kS2
    have hne : w2.heap.size ≠ w2.heap.size + 1 := by omega
    have hb3l : w.heap.size ≤ w2.heap.size := kQ2.size
    have hbl3 := HBl.out
    have x30 := hx3.cell (k := 0) rfl
    have x31 := hx3.cell (k := 1) rfl
    have x32 := hx3.cell (k := 2) rfl
    have x33 := hx3.cell (k := 3) rfl
    have x34 := hx3.cell (k := 4) rfl
    clear HC1 ht k2 kS2 kQ2 hw2 hb2 hx3 hy3
    go_wp2_with fail
    generalize (w2.alloc (.cells #[.int .i64 6, .int .i64 y1, .int .i64 y2, .int .i64 y3, .int .i64 y4] 51)).alloc (.cells #[.int .i64 6, .int .i64 0, .int .i64 0, .int .i64 0, .int .i64 0] 51) = w3 at *
    generalize w2.heap.size = b3 at *
    have C4 := Lib.hid (HP.out _ S2 K3.out.out HW3.out)
    refine C4.out.mono ?_
    rintro e w4 ⟨v4, rfl, kt⟩
    have HT := Lib.hid (KTo.trans HQ3.out HS3.out (K3.out.placed kt))
    clear C4 kt
    go_wp2_with fail
    go_ret
    exact ⟨_, rfl, HT.out⟩
set_option maxHeartbeats 8000000 in
theorem kept_both {a b : Nat} {x y : RS} (hN : NodesAt w0 A0 P n0) (hB : B = w0.heap.size) (hi : i < n0) (h0 : nd P i 0 = 7) (ha : nd P i 2 = a) (hb : nd P i 3 = b) (hy : y.st.ok) (hn : RAheadOk P A0 n0 c0 B tb ct w0 i (RS.both x y).st) (hnb : RAheadOk P A0 n0 c0 B tb ct w0 b y.st) (hna : RAheadOk P A0 n0 c0 B tb ct w0 a x.st)
    (hka : RKeptOk P A0 n0 c0 B tb ct w0 a x) (hkb : RKeptOk P A0 n0 c0 B tb ct w0 b y) : RKeptOk P A0 n0 c0 B tb ct w0 i (.both x y) := by
  intro w S v n o T u must h hw hu hcn
  cases hany : ((RS.both x y).st.need u).2 with
  | false => exact kept_none hn must h hw hu hcn hany
  | true =>
    have hcut : (RS.both x y).cut u = pairR (x.cut (y.st.need u).1) (y.cut u) := rfl
    have hv64 : (y.st.need u).1 < 64 := need_lt hy hu
    simp only [RS.cnt] at hcn
    have C1 := hn w T u h.tab hw hu
    rw [hany] at C1
    have N1 := Lib.hid (fun (W : World) (T2 : List Int) (hc : TabAt P n0 B tb T2 W) (hW : Below B w0 W) => hnb W T2 u hc hW hu)
    have N2 := Lib.hid (fun (W : World) (T2 : List Int) (hc : TabAt P n0 B tb T2 W) (hW : Below B w0 W) => hna W T2 _ hc hW hv64)
    have M1 := Lib.hid (fun (W : World) (S2 : Nat → Prop) (T2 : List Int) (hc : KAt P n0 B tb S2 v n o T2 W) (hW : Below B w0 W) => hka W S2 v n o T2 _ false hc hW hv64 (by omega))
    have M2 := Lib.hid (fun (W : World) (S2 : Nat → Prop) (v2 : Value) (n2 : Nat) (o2 T2 : List Int) (hc : KAt P n0 B tb S2 v2 n2 o2 T2 W) (hW : Below B w0 W) (hc2 : n2 + y.cnt ≤ 1000) => hkb W S2 v2 n2 o2 T2 u false hc hW hu hc2)
    rw [show kres x (y.st.need u).1 false = x.cut (y.st.need u).1 from rfl] at M1
    rw [show kres y u false = y.cut u from rfl] at M2
    have hcx : ∀ t, x.cut (y.st.need u).1 = some t → t.cnt ≤ x.cnt := fun t e => by have := RS.cut0_cnt x (y.st.need u).1; rw [e] at this; exact this
    have hcy : ∀ t, y.cut u = some t → t.cnt ≤ y.cnt := fun t e => by have := RS.cut0_cnt y u; rw [e] at this; exact this
    have hfa := rcut_isSome x (y.st.need u).1
    have hfb := rcut_isSome y u
    have hany2 : ((x.st.need (y.st.need u).1).2 || (y.st.need u).2) = true := hany
    have hkr : kres (RS.both x y) u must = if must then some ((pairR (x.cut (y.st.need u).1) (y.cut u)).getD .skip) else pairR (x.cut (y.st.need u).1) (y.cut u) := by unfold kres; rw [hcut]
    rw [hkr]
    generalize ((RS.both x y).st.need u).1 = vv at *
    generalize (y.st.need u).2 = fb at *
    generalize (y.st.need u).1 = vb at *
    generalize (x.st.need vb).1 = va at *
    generalize (x.st.need vb).2 = fa at *
    generalize x.cut vb = ca at *
    generalize y.cut u = cb at *
    have HC1 := Lib.hid C1
    have HN := Lib.hid hN
    have HW := Lib.hid hw
    have H := Lib.hid h
    have HBe := Lib.hid hB
    have HBl := Lib.hid h.base
    obtain ⟨Av, cv, rfl⟩ := h.out.own.form
    clear C1 hn hnb hna h hw hany hka hkb hN hB hcut hkr
    cases ca with
    | none =>
      cases cb with
      | none =>
        have hfa : fa = false := hfa.symm
        have hfb : fb = false := hfb.symm
        subst hfa; subst hfb
        cases hany2
      | some t =>
        have ht := hcy t rfl
        have hp1 := t.pos
        have hgoal : (if must then some ((pairR (none) (some t)).getD .skip) else pairR (none) (some t)) = some t := by cases must <;> rfl
        rw [hgoal]
        show Calls _ _ _ w fun e w' => ∃ v', e = .returned v' ∧ KTo P n0 B tb S v' (n + t.cnt) (o ++ t.lay n) w w'
        clear hgoal
        have hfa : fa = false := hfa.symm
        have hfb : fb = true := hfb.symm
        subst hfa
        subst hfb
        have M1 : Hid (∀ (W : World) (S2 : Nat → Prop) (T2 : List Int), KAt P n0 B tb S2 (.slice Av n cv) n o T2 W → Below B w0 W → Calls Tryd.prog 50 #[.slice Av n cv, .slice A0 n0 c0, .slice (some ⟨tb, 0, none⟩) (64 * n0) ct, .int .i64 a, .int .i64 vb, .bool false] W fun e w' => ∃ v', e = .returned v' ∧ KTo P n0 B tb S2 v' n o W w') := M1
        have M2 : Hid (∀ (W : World) (S2 : Nat → Prop) (v2 : Value) (n2 : Nat) (o2 T2 : List Int), KAt P n0 B tb S2 v2 n2 o2 T2 W → Below B w0 W → n2 + y.cnt ≤ 1000 → Calls Tryd.prog 50 #[v2, .slice A0 n0 c0, .slice (some ⟨tb, 0, none⟩) (64 * n0) ct, .int .i64 b, .int .i64 u, .bool false] W fun e w' => ∃ v', e = .returned v' ∧ KTo P n0 B tb S2 v' (n2 + t.cnt) (o2 ++ t.lay n2) W w') := M2
        go_enter Tryd.func50, Tryd.ntmps50
        go_wp2_with fail
        refine HC1.out.mono ?_
        rintro e w2 ⟨rfl, ht⟩
        obtain ⟨S2, T2, k2, kS2, kQ2⟩ := H.out.ahead ht
        have hw2 := H.out.to_below kQ2 HW.out
        obtain ⟨ba, offa, hA0, p0, p1, p2, p3, p4⟩ := (HN.out.below (B := 0) (HBe.out ▸ hw2)).cells hi
        subst hA0
        rw [h0] at p0
        rw [ha] at p2
        rw [hb] at p3
        have hin := HN.out.small
        generalize nd P i 1 = x1 at *
        generalize nd P i 4 = x4 at *
        have hb2 : Below w2.heap.size w2 ((w2.alloc (.cells #[.int .i64 7, .int .i64 x1, .int .i64 (a : Nat), .int .i64 (b : Nat), .int .i64 x4] 51)).alloc (.cells #[.int .i64 7, .int .i64 0, .int .i64 0, .int .i64 0, .int .i64 0] 51)) := below_two _ _
        have hx3 := (BoxN.new w2 51 #[.int .i64 7, .int .i64 x1, .int .i64 (a : Nat), .int .i64 (b : Nat), .int .i64 x4]).alloc (.cells #[.int .i64 7, .int .i64 0, .int .i64 0, .int .i64 0, .int .i64 0] 51)
        have hy3 := BoxN.new (w2.alloc (.cells #[.int .i64 7, .int .i64 x1, .int .i64 (a : Nat), .int .i64 (b : Nat), .int .i64 x4] 51)) 51 #[.int .i64 7, .int .i64 0, .int .i64 0, .int .i64 0, .int .i64 0]
        rw [show (w2.alloc (.cells #[.int .i64 7, .int .i64 x1, .int .i64 (a : Nat), .int .i64 (b : Nat), .int .i64 x4] 51)).heap.size = w2.heap.size + 1 by simp] at hy3
        have hx0 := (BoxN.new w2 51 #[.int .i64 7, .int .i64 x1, .int .i64 (a : Nat), .int .i64 (b : Nat), .int .i64 x4]).cell (k := 0) rfl
        have Hx3 := Lib.hid hx3
        have Hy3 := Lib.hid hy3
        have Hnx3 := Lib.hid k2.new
        have Hny3 := Lib.hid k2.new1
        have K3 := Lib.hid (k2.below hb2)
        have HW3 := Lib.hid (hw2.trans (hb2.mono k2.base))
        have HQ3 := Lib.hid (kQ2.trans (QKeeps.of_below (S := fun _ => False) hb2) (fun b hb => hb.elim))
        have HS3 := Lib.hid kS2
        have hne : w2.heap.size ≠ w2.heap.size + 1 := by omega
        have hb3l : w.heap.size ≤ w2.heap.size := kQ2.size
        have hbl3 := HBl.out
        have x30 := hx3.cell (k := 0) rfl
        have x31 := hx3.cell (k := 1) rfl
        have x32 := hx3.cell (k := 2) rfl
        have x33 := hx3.cell (k := 3) rfl
        have x34 := hx3.cell (k := 4) rfl
        clear HC1 ht k2 kS2 kQ2 hw2 hb2 hx3 hy3
        go_wp2_with fail
        generalize (w2.alloc (.cells #[.int .i64 7, .int .i64 x1, .int .i64 (a : Nat), .int .i64 (b : Nat), .int .i64 x4] 51)).alloc (.cells #[.int .i64 7, .int .i64 0, .int .i64 0, .int .i64 0, .int .i64 0] 51) = w3 at *
        generalize w2.heap.size = b3 at *
        have C4 := Lib.hid (N1.out _ T2 K3.out.tab HW3.out)
        refine C4.out.mono ?_
        rintro e w4 ⟨rfl, ht⟩
        have kt := K3.out.ahead ht
        clear ht
        obtain ⟨S4, T4, k, kS, kQ⟩ := kt
        obtain ⟨hx, hnx⟩ := QKeeps.nbox (S' := fun b => S4 b ∨ b = tb) kQ Hx3.out Hnx3.out kS
        obtain ⟨hy, hny⟩ := QKeeps.nbox (S' := fun b => S4 b ∨ b = tb) kQ Hy3.out Hny3.out kS
        have HW4 := Lib.hid (K3.out.to_below kQ HW3.out)
        have HQ4 := Lib.hid (HQ3.out.trans kQ HS3.out)
        have HS4 := Lib.hid (fun b (hb : S4 b ∨ b = tb) => (kS b hb).elim (HS3.out b) (fun e => (Or.inr (Nat.le_trans HQ3.out.size e) : (S b ∨ b = tb) ∨ w.heap.size ≤ b)))
        have K4 := Lib.hid k
        have Hx4 := Lib.hid hx
        have Hy4 := Lib.hid hy
        have Hnx4 := Lib.hid hnx
        have Hny4 := Lib.hid hny
        have x42 := hx.cell (k := 2) rfl
        clear C4 k kS kQ hx hy hnx hny
        have C5 := Lib.hid (N2.out _ T4 K4.out.tab HW4.out)
        go_wp2_with fail
        refine C5.out.mono ?_
        rintro e w5 ⟨rfl, ht⟩
        have kt := K4.out.ahead ht
        clear ht
        obtain ⟨S5, T5, k, kS, kQ⟩ := kt
        obtain ⟨hx, hnx⟩ := QKeeps.nbox (S' := fun b => S5 b ∨ b = tb) kQ Hx4.out Hnx4.out kS
        obtain ⟨hy, hny⟩ := QKeeps.nbox (S' := fun b => S5 b ∨ b = tb) kQ Hy4.out Hny4.out kS
        have HW5 := Lib.hid (K4.out.to_below kQ HW4.out)
        have HQ5 := Lib.hid (HQ4.out.trans kQ HS4.out)
        have HS5 := Lib.hid (fun b (hb : S5 b ∨ b = tb) => (kS b hb).elim (HS4.out b) (fun e => (Or.inr (Nat.le_trans HQ4.out.size e) : (S b ∨ b = tb) ∨ w.heap.size ≤ b)))
        have K5 := Lib.hid k
        have Hx5 := Lib.hid hx
        have Hy5 := Lib.hid hy
        have Hnx5 := Lib.hid hnx
        have Hny5 := Lib.hid hny
        have x52 := hx.cell (k := 2) rfl
        clear C5 k kS kQ hx hy hnx hny
        have C6 := Lib.hid (M1.out _ S5 T5 K5.out HW5.out)
        go_wp2_with fail
        refine C6.out.mono ?_
        rintro e w6 ⟨v6, rfl, kt⟩
        obtain ⟨S6, T6, k, kS, kQ⟩ := kt
        obtain ⟨hx, hnx⟩ := QKeeps.nbox (S' := fun b => S6 b ∨ b = tb) kQ Hx5.out Hnx5.out kS
        obtain ⟨hy, hny⟩ := QKeeps.nbox (S' := fun b => S6 b ∨ b = tb) kQ Hy5.out Hny5.out kS
        have HW6 := Lib.hid (K5.out.to_below kQ HW5.out)
        have HQ6 := Lib.hid (HQ5.out.trans kQ HS5.out)
        have HS6 := Lib.hid (fun b (hb : S6 b ∨ b = tb) => (kS b hb).elim (HS5.out b) (fun e => (Or.inr (Nat.le_trans HQ5.out.size e) : (S b ∨ b = tb) ∨ w.heap.size ≤ b)))
        have K6 := Lib.hid k
        have Hx6 := Lib.hid hx
        have Hy6 := Lib.hid hy
        have Hnx6 := Lib.hid hnx
        have Hny6 := Lib.hid hny
        have x63 := hx.cell (k := 3) rfl
        clear C6 k kS kQ hx hy hnx hny
        obtain ⟨A6, cv6, hv6⟩ := K6.out.out.own.form
        subst hv6
        generalize hcn7 : n = cn7 at *
        obtain ⟨ia, hia⟩ : ∃ z : Int, (cn7 : Int) - 1 = z := ⟨_, rfl⟩
        have hcast7 : (cn7 : Int) = ia + 1 := by omega
        have hcbd7 : cn7 ≤ 1000 := by omega
        have fz7 := Hy6.out.free 2
        have sz7 := Hy6.out.cell (k := 2) rfl
        have K7 := Lib.hid (K6.out.off (p := ⟨b3 + 1, 2, none⟩) Hny6.out (.int .i64 ia))
        have Hx7 := Lib.hid (Hx6.out.other (a := ⟨b3 + 1, 2, none⟩) hne (.int .i64 ia))
        have Hy7 := Lib.hid (Hy6.out.set 2 (.int .i64 ia))
        have HW7 := Lib.hid (HW6.out.setCell (p := ⟨b3 + 1, 2, none⟩) (by show B ≤ b3 + 1; omega) (.int .i64 ia))
        have HQ7 := Lib.hid (HQ6.out.trans ((QKeeps.refl (fun x => x = b3 + 1) w6).setCell (p := ⟨b3 + 1, 2, none⟩) rfl (.int .i64 ia)) (fun x hx => .inr (by rw [hx]; omega)))
        have HS7 := HS6
        have Hnx7 := Hnx6
        have Hny7 := Hny6
        have x70 := Hx7.out.cell (k := 0) rfl
        have x71 := Hx7.out.cell (k := 1) rfl
        have x72 := Hx7.out.cell (k := 2) rfl
        have x73 := Hx7.out.cell (k := 3) rfl
        have x74 := Hx7.out.cell (k := 4) rfl
        have C8 := Lib.hid (M2.out _ S6 _ _ _ T6 K7.out HW7.out (by omega))
        go_wp2_with fail
        refine C8.out.mono ?_
        rintro e w8 ⟨v8, rfl, kt⟩
        obtain ⟨S8, T8, k, kS, kQ⟩ := kt
        obtain ⟨hx, hnx⟩ := QKeeps.nbox (S' := fun b => S8 b ∨ b = tb) kQ Hx7.out Hnx7.out kS
        obtain ⟨hy, hny⟩ := QKeeps.nbox (S' := fun b => S8 b ∨ b = tb) kQ Hy7.out Hny7.out kS
        have HW8 := Lib.hid (K7.out.to_below kQ HW7.out)
        have HQ8 := Lib.hid (HQ7.out.trans kQ HS7.out)
        have HS8 := Lib.hid (fun b (hb : S8 b ∨ b = tb) => (kS b hb).elim (HS7.out b) (fun e => (Or.inr (Nat.le_trans HQ7.out.size e) : (S b ∨ b = tb) ∨ w.heap.size ≤ b)))
        have K8 := Lib.hid k
        have Hx8 := Lib.hid hx
        have Hy8 := Lib.hid hy
        have Hnx8 := Lib.hid hnx
        have Hny8 := Lib.hid hny
        clear C8 k kS kQ hx hy hnx hny
        obtain ⟨A8, cv8, hv8⟩ := K8.out.out.own.form
        subst hv8
        generalize hcn9 : cn7 + t.cnt = cn9 at *
        obtain ⟨ib, hib⟩ : ∃ z : Int, (cn9 : Int) - 1 = z := ⟨_, rfl⟩
        have hcast9 : (cn9 : Int) = ib + 1 := by omega
        have hcbd9 : cn9 ≤ 1000 := by omega
        have fz9 := Hy8.out.free 3
        have sz9 := Hy8.out.cell (k := 3) rfl
        have K9 := Lib.hid (K8.out.off (p := ⟨b3 + 1, 3, none⟩) Hny8.out (.int .i64 ib))
        have Hx9 := Lib.hid (Hx8.out.other (a := ⟨b3 + 1, 3, none⟩) hne (.int .i64 ib))
        have Hy9 := Lib.hid (Hy8.out.set 3 (.int .i64 ib))
        have HW9 := Lib.hid (HW8.out.setCell (p := ⟨b3 + 1, 3, none⟩) (by show B ≤ b3 + 1; omega) (.int .i64 ib))
        have HQ9 := Lib.hid (HQ8.out.trans ((QKeeps.refl (fun x => x = b3 + 1) w8).setCell (p := ⟨b3 + 1, 3, none⟩) rfl (.int .i64 ib)) (fun x hx => .inr (by rw [hx]; omega)))
        have HS9 := HS8
        have Hnx9 := Hnx8
        have Hny9 := Hny8
        have x90 := Hx9.out.cell (k := 0) rfl
        have x91 := Hx9.out.cell (k := 1) rfl
        have x92 := Hx9.out.cell (k := 2) rfl
        have x93 := Hx9.out.cell (k := 3) rfl
        have x94 := Hx9.out.cell (k := 4) rfl
        have HT := Lib.hid (show KTo P n0 B tb S (.slice A8 cn9 cv8) cn9 _ w _ from ⟨S8, T8, K9.out, HS9.out, HQ9.out⟩)
        go_wp2_with fail
        go_ret
        subst hcn9
        subst hcn7
        exact ⟨_, rfl, HT.out⟩
    | some s =>
      cases cb with
      | none =>
        have hs := hcx s rfl
        have hp1 := s.pos
        have hgoal : (if must then some ((pairR (some s) (none)).getD .skip) else pairR (some s) (none)) = some s := by cases must <;> rfl
        rw [hgoal]
        show Calls _ _ _ w fun e w' => ∃ v', e = .returned v' ∧ KTo P n0 B tb S v' (n + s.cnt) (o ++ s.lay n) w w'
        clear hgoal
        have hfa : fa = true := hfa.symm
        have hfb : fb = false := hfb.symm
        subst hfa
        subst hfb
        have M1 : Hid (∀ (W : World) (S2 : Nat → Prop) (T2 : List Int), KAt P n0 B tb S2 (.slice Av n cv) n o T2 W → Below B w0 W → Calls Tryd.prog 50 #[.slice Av n cv, .slice A0 n0 c0, .slice (some ⟨tb, 0, none⟩) (64 * n0) ct, .int .i64 a, .int .i64 vb, .bool false] W fun e w' => ∃ v', e = .returned v' ∧ KTo P n0 B tb S2 v' (n + s.cnt) (o ++ s.lay n) W w') := M1
        have M2 : Hid (∀ (W : World) (S2 : Nat → Prop) (v2 : Value) (n2 : Nat) (o2 T2 : List Int), KAt P n0 B tb S2 v2 n2 o2 T2 W → Below B w0 W → n2 + y.cnt ≤ 1000 → Calls Tryd.prog 50 #[v2, .slice A0 n0 c0, .slice (some ⟨tb, 0, none⟩) (64 * n0) ct, .int .i64 b, .int .i64 u, .bool false] W fun e w' => ∃ v', e = .returned v' ∧ KTo P n0 B tb S2 v' n2 o2 W w') := M2
        go_enter Tryd.func50, Tryd.ntmps50
        go_wp2_with fail
        refine HC1.out.mono ?_
        rintro e w2 ⟨rfl, ht⟩
        obtain ⟨S2, T2, k2, kS2, kQ2⟩ := H.out.ahead ht
        have hw2 := H.out.to_below kQ2 HW.out
        obtain ⟨ba, offa, hA0, p0, p1, p2, p3, p4⟩ := (HN.out.below (B := 0) (HBe.out ▸ hw2)).cells hi
        subst hA0
        rw [h0] at p0
        rw [ha] at p2
        rw [hb] at p3
        have hin := HN.out.small
        generalize nd P i 1 = x1 at *
        generalize nd P i 4 = x4 at *
        have hb2 : Below w2.heap.size w2 ((w2.alloc (.cells #[.int .i64 7, .int .i64 x1, .int .i64 (a : Nat), .int .i64 (b : Nat), .int .i64 x4] 51)).alloc (.cells #[.int .i64 7, .int .i64 0, .int .i64 0, .int .i64 0, .int .i64 0] 51)) := below_two _ _
        have hx3 := (BoxN.new w2 51 #[.int .i64 7, .int .i64 x1, .int .i64 (a : Nat), .int .i64 (b : Nat), .int .i64 x4]).alloc (.cells #[.int .i64 7, .int .i64 0, .int .i64 0, .int .i64 0, .int .i64 0] 51)
        have hy3 := BoxN.new (w2.alloc (.cells #[.int .i64 7, .int .i64 x1, .int .i64 (a : Nat), .int .i64 (b : Nat), .int .i64 x4] 51)) 51 #[.int .i64 7, .int .i64 0, .int .i64 0, .int .i64 0, .int .i64 0]
        rw [show (w2.alloc (.cells #[.int .i64 7, .int .i64 x1, .int .i64 (a : Nat), .int .i64 (b : Nat), .int .i64 x4] 51)).heap.size = w2.heap.size + 1 by simp] at hy3
        have hx0 := (BoxN.new w2 51 #[.int .i64 7, .int .i64 x1, .int .i64 (a : Nat), .int .i64 (b : Nat), .int .i64 x4]).cell (k := 0) rfl
        have Hx3 := Lib.hid hx3
        have Hy3 := Lib.hid hy3
        have Hnx3 := Lib.hid k2.new
        have Hny3 := Lib.hid k2.new1
        have K3 := Lib.hid (k2.below hb2)
        have HW3 := Lib.hid (hw2.trans (hb2.mono k2.base))
        have HQ3 := Lib.hid (kQ2.trans (QKeeps.of_below (S := fun _ => False) hb2) (fun b hb => hb.elim))
        have HS3 := Lib.hid kS2
        have hne : w2.heap.size ≠ w2.heap.size + 1 := by omega
        have hb3l : w.heap.size ≤ w2.heap.size := kQ2.size
        have hbl3 := HBl.out
        have x30 := hx3.cell (k := 0) rfl
        have x31 := hx3.cell (k := 1) rfl
        have x32 := hx3.cell (k := 2) rfl
        have x33 := hx3.cell (k := 3) rfl
        have x34 := hx3.cell (k := 4) rfl
        clear HC1 ht k2 kS2 kQ2 hw2 hb2 hx3 hy3
        go_wp2_with fail
        generalize (w2.alloc (.cells #[.int .i64 7, .int .i64 x1, .int .i64 (a : Nat), .int .i64 (b : Nat), .int .i64 x4] 51)).alloc (.cells #[.int .i64 7, .int .i64 0, .int .i64 0, .int .i64 0, .int .i64 0] 51) = w3 at *
        generalize w2.heap.size = b3 at *
        have C4 := Lib.hid (N1.out _ T2 K3.out.tab HW3.out)
        refine C4.out.mono ?_
        rintro e w4 ⟨rfl, ht⟩
        have kt := K3.out.ahead ht
        clear ht
        obtain ⟨S4, T4, k, kS, kQ⟩ := kt
        obtain ⟨hx, hnx⟩ := QKeeps.nbox (S' := fun b => S4 b ∨ b = tb) kQ Hx3.out Hnx3.out kS
        obtain ⟨hy, hny⟩ := QKeeps.nbox (S' := fun b => S4 b ∨ b = tb) kQ Hy3.out Hny3.out kS
        have HW4 := Lib.hid (K3.out.to_below kQ HW3.out)
        have HQ4 := Lib.hid (HQ3.out.trans kQ HS3.out)
        have HS4 := Lib.hid (fun b (hb : S4 b ∨ b = tb) => (kS b hb).elim (HS3.out b) (fun e => (Or.inr (Nat.le_trans HQ3.out.size e) : (S b ∨ b = tb) ∨ w.heap.size ≤ b)))
        have K4 := Lib.hid k
        have Hx4 := Lib.hid hx
        have Hy4 := Lib.hid hy
        have Hnx4 := Lib.hid hnx
        have Hny4 := Lib.hid hny
        have x42 := hx.cell (k := 2) rfl
        clear C4 k kS kQ hx hy hnx hny
        have C5 := Lib.hid (N2.out _ T4 K4.out.tab HW4.out)
        go_wp2_with fail
        refine C5.out.mono ?_
        rintro e w5 ⟨rfl, ht⟩
        have kt := K4.out.ahead ht
        clear ht
        obtain ⟨S5, T5, k, kS, kQ⟩ := kt
        obtain ⟨hx, hnx⟩ := QKeeps.nbox (S' := fun b => S5 b ∨ b = tb) kQ Hx4.out Hnx4.out kS
        obtain ⟨hy, hny⟩ := QKeeps.nbox (S' := fun b => S5 b ∨ b = tb) kQ Hy4.out Hny4.out kS
        have HW5 := Lib.hid (K4.out.to_below kQ HW4.out)
        have HQ5 := Lib.hid (HQ4.out.trans kQ HS4.out)
        have HS5 := Lib.hid (fun b (hb : S5 b ∨ b = tb) => (kS b hb).elim (HS4.out b) (fun e => (Or.inr (Nat.le_trans HQ4.out.size e) : (S b ∨ b = tb) ∨ w.heap.size ≤ b)))
        have K5 := Lib.hid k
        have Hx5 := Lib.hid hx
        have Hy5 := Lib.hid hy
        have Hnx5 := Lib.hid hnx
        have Hny5 := Lib.hid hny
        have x52 := hx.cell (k := 2) rfl
        clear C5 k kS kQ hx hy hnx hny
        have C6 := Lib.hid (M1.out _ S5 T5 K5.out HW5.out)
        go_wp2_with fail
        refine C6.out.mono ?_
        rintro e w6 ⟨v6, rfl, kt⟩
        obtain ⟨S6, T6, k, kS, kQ⟩ := kt
        obtain ⟨hx, hnx⟩ := QKeeps.nbox (S' := fun b => S6 b ∨ b = tb) kQ Hx5.out Hnx5.out kS
        obtain ⟨hy, hny⟩ := QKeeps.nbox (S' := fun b => S6 b ∨ b = tb) kQ Hy5.out Hny5.out kS
        have HW6 := Lib.hid (K5.out.to_below kQ HW5.out)
        have HQ6 := Lib.hid (HQ5.out.trans kQ HS5.out)
        have HS6 := Lib.hid (fun b (hb : S6 b ∨ b = tb) => (kS b hb).elim (HS5.out b) (fun e => (Or.inr (Nat.le_trans HQ5.out.size e) : (S b ∨ b = tb) ∨ w.heap.size ≤ b)))
        have K6 := Lib.hid k
        have Hx6 := Lib.hid hx
        have Hy6 := Lib.hid hy
        have Hnx6 := Lib.hid hnx
        have Hny6 := Lib.hid hny
        have x63 := hx.cell (k := 3) rfl
        clear C6 k kS kQ hx hy hnx hny
        obtain ⟨A6, cv6, hv6⟩ := K6.out.out.own.form
        subst hv6
        generalize hcn7 : n + s.cnt = cn7 at *
        obtain ⟨ia, hia⟩ : ∃ z : Int, (cn7 : Int) - 1 = z := ⟨_, rfl⟩
        have hcast7 : (cn7 : Int) = ia + 1 := by omega
        have hcbd7 : cn7 ≤ 1000 := by omega
        have fz7 := Hy6.out.free 2
        have sz7 := Hy6.out.cell (k := 2) rfl
        have K7 := Lib.hid (K6.out.off (p := ⟨b3 + 1, 2, none⟩) Hny6.out (.int .i64 ia))
        have Hx7 := Lib.hid (Hx6.out.other (a := ⟨b3 + 1, 2, none⟩) hne (.int .i64 ia))
        have Hy7 := Lib.hid (Hy6.out.set 2 (.int .i64 ia))
        have HW7 := Lib.hid (HW6.out.setCell (p := ⟨b3 + 1, 2, none⟩) (by show B ≤ b3 + 1; omega) (.int .i64 ia))
        have HQ7 := Lib.hid (HQ6.out.trans ((QKeeps.refl (fun x => x = b3 + 1) w6).setCell (p := ⟨b3 + 1, 2, none⟩) rfl (.int .i64 ia)) (fun x hx => .inr (by rw [hx]; omega)))
        have HS7 := HS6
        have Hnx7 := Hnx6
        have Hny7 := Hny6
        have x70 := Hx7.out.cell (k := 0) rfl
        have x71 := Hx7.out.cell (k := 1) rfl
        have x72 := Hx7.out.cell (k := 2) rfl
        have x73 := Hx7.out.cell (k := 3) rfl
        have x74 := Hx7.out.cell (k := 4) rfl
        have C8 := Lib.hid (M2.out _ S6 _ _ _ T6 K7.out HW7.out (by omega))
        go_wp2_with fail
        refine C8.out.mono ?_
        rintro e w8 ⟨v8, rfl, kt⟩
        obtain ⟨S8, T8, k, kS, kQ⟩ := kt
        obtain ⟨hx, hnx⟩ := QKeeps.nbox (S' := fun b => S8 b ∨ b = tb) kQ Hx7.out Hnx7.out kS
        obtain ⟨hy, hny⟩ := QKeeps.nbox (S' := fun b => S8 b ∨ b = tb) kQ Hy7.out Hny7.out kS
        have HW8 := Lib.hid (K7.out.to_below kQ HW7.out)
        have HQ8 := Lib.hid (HQ7.out.trans kQ HS7.out)
        have HS8 := Lib.hid (fun b (hb : S8 b ∨ b = tb) => (kS b hb).elim (HS7.out b) (fun e => (Or.inr (Nat.le_trans HQ7.out.size e) : (S b ∨ b = tb) ∨ w.heap.size ≤ b)))
        have K8 := Lib.hid k
        have Hx8 := Lib.hid hx
        have Hy8 := Lib.hid hy
        have Hnx8 := Lib.hid hnx
        have Hny8 := Lib.hid hny
        clear C8 k kS kQ hx hy hnx hny
        obtain ⟨A8, cv8, hv8⟩ := K8.out.out.own.form
        subst hv8
        generalize hcn9 : cn7 = cn9 at *
        obtain ⟨ib, hib⟩ : ∃ z : Int, (cn9 : Int) - 1 = z := ⟨_, rfl⟩
        have hcast9 : (cn9 : Int) = ib + 1 := by omega
        have hcbd9 : cn9 ≤ 1000 := by omega
        have fz9 := Hy8.out.free 3
        have sz9 := Hy8.out.cell (k := 3) rfl
        have K9 := Lib.hid (K8.out.off (p := ⟨b3 + 1, 3, none⟩) Hny8.out (.int .i64 ib))
        have Hx9 := Lib.hid (Hx8.out.other (a := ⟨b3 + 1, 3, none⟩) hne (.int .i64 ib))
        have Hy9 := Lib.hid (Hy8.out.set 3 (.int .i64 ib))
        have HW9 := Lib.hid (HW8.out.setCell (p := ⟨b3 + 1, 3, none⟩) (by show B ≤ b3 + 1; omega) (.int .i64 ib))
        have HQ9 := Lib.hid (HQ8.out.trans ((QKeeps.refl (fun x => x = b3 + 1) w8).setCell (p := ⟨b3 + 1, 3, none⟩) rfl (.int .i64 ib)) (fun x hx => .inr (by rw [hx]; omega)))
        have HS9 := HS8
        have Hnx9 := Hnx8
        have Hny9 := Hny8
        have x90 := Hx9.out.cell (k := 0) rfl
        have x91 := Hx9.out.cell (k := 1) rfl
        have x92 := Hx9.out.cell (k := 2) rfl
        have x93 := Hx9.out.cell (k := 3) rfl
        have x94 := Hx9.out.cell (k := 4) rfl
        obtain rfl : ib = ia := by omega
        have HT := Lib.hid (show KTo P n0 B tb S (.slice A8 cn9 cv8) cn9 _ w _ from ⟨S8, T8, K9.out, HS9.out, HQ9.out⟩)
        go_wp2_with fail
        go_ret
        subst hcn9
        subst hcn7
        exact ⟨_, rfl, HT.out⟩
      | some t =>
        have hs := hcx s rfl
        have ht := hcy t rfl
        have hp1 := s.pos
        have hp2 := t.pos
        have hgoal : (if must then some ((pairR (some s) (some t)).getD .skip) else pairR (some s) (some t)) = some (.both s t) := by cases must <;> rfl
        rw [hgoal]
        show Calls _ _ _ w fun e w' => ∃ v', e = .returned v' ∧ KTo P n0 B tb S v' (n + (s.cnt + t.cnt + 1)) (o ++ (RS.both s t).lay n) w w'
        have hlay : (RS.both s t).lay n = (s.lay n ++ t.lay (n + s.cnt)) ++ [7, 0, ((n + s.cnt - 1 : Nat) : Int), ((n + s.cnt + t.cnt - 1 : Nat) : Int), 0] := rfl
        rw [hlay]
        clear hlay hgoal
        have hfa : fa = true := hfa.symm
        have hfb : fb = true := hfb.symm
        subst hfa
        subst hfb
        have M1 : Hid (∀ (W : World) (S2 : Nat → Prop) (T2 : List Int), KAt P n0 B tb S2 (.slice Av n cv) n o T2 W → Below B w0 W → Calls Tryd.prog 50 #[.slice Av n cv, .slice A0 n0 c0, .slice (some ⟨tb, 0, none⟩) (64 * n0) ct, .int .i64 a, .int .i64 vb, .bool false] W fun e w' => ∃ v', e = .returned v' ∧ KTo P n0 B tb S2 v' (n + s.cnt) (o ++ s.lay n) W w') := M1
        have M2 : Hid (∀ (W : World) (S2 : Nat → Prop) (v2 : Value) (n2 : Nat) (o2 T2 : List Int), KAt P n0 B tb S2 v2 n2 o2 T2 W → Below B w0 W → n2 + y.cnt ≤ 1000 → Calls Tryd.prog 50 #[v2, .slice A0 n0 c0, .slice (some ⟨tb, 0, none⟩) (64 * n0) ct, .int .i64 b, .int .i64 u, .bool false] W fun e w' => ∃ v', e = .returned v' ∧ KTo P n0 B tb S2 v' (n2 + t.cnt) (o2 ++ t.lay n2) W w') := M2
        go_enter Tryd.func50, Tryd.ntmps50
        go_wp2_with fail
        refine HC1.out.mono ?_
        rintro e w2 ⟨rfl, ht⟩
        obtain ⟨S2, T2, k2, kS2, kQ2⟩ := H.out.ahead ht
        have hw2 := H.out.to_below kQ2 HW.out
        obtain ⟨ba, offa, hA0, p0, p1, p2, p3, p4⟩ := (HN.out.below (B := 0) (HBe.out ▸ hw2)).cells hi
        subst hA0
        rw [h0] at p0
        rw [ha] at p2
        rw [hb] at p3
        have hin := HN.out.small
        generalize nd P i 1 = x1 at *
        generalize nd P i 4 = x4 at *
        have hb2 : Below w2.heap.size w2 ((w2.alloc (.cells #[.int .i64 7, .int .i64 x1, .int .i64 (a : Nat), .int .i64 (b : Nat), .int .i64 x4] 51)).alloc (.cells #[.int .i64 7, .int .i64 0, .int .i64 0, .int .i64 0, .int .i64 0] 51)) := below_two _ _
        have hx3 := (BoxN.new w2 51 #[.int .i64 7, .int .i64 x1, .int .i64 (a : Nat), .int .i64 (b : Nat), .int .i64 x4]).alloc (.cells #[.int .i64 7, .int .i64 0, .int .i64 0, .int .i64 0, .int .i64 0] 51)
        have hy3 := BoxN.new (w2.alloc (.cells #[.int .i64 7, .int .i64 x1, .int .i64 (a : Nat), .int .i64 (b : Nat), .int .i64 x4] 51)) 51 #[.int .i64 7, .int .i64 0, .int .i64 0, .int .i64 0, .int .i64 0]
        rw [show (w2.alloc (.cells #[.int .i64 7, .int .i64 x1, .int .i64 (a : Nat), .int .i64 (b : Nat), .int .i64 x4] 51)).heap.size = w2.heap.size + 1 by simp] at hy3
        have hx0 := (BoxN.new w2 51 #[.int .i64 7, .int .i64 x1, .int .i64 (a : Nat), .int .i64 (b : Nat), .int .i64 x4]).cell (k := 0) rfl
        have Hx3 := Lib.hid hx3
        have Hy3 := Lib.hid hy3
        have Hnx3 := Lib.hid k2.new
        have Hny3 := Lib.hid k2.new1
        have K3 := Lib.hid (k2.below hb2)
        have HW3 := Lib.hid (hw2.trans (hb2.mono k2.base))
        have HQ3 := Lib.hid (kQ2.trans (QKeeps.of_below (S := fun _ => False) hb2) (fun b hb => hb.elim))
        have HS3 := Lib.hid kS2
        have hne : w2.heap.size ≠ w2.heap.size + 1 := by omega
        have hb3l : w.heap.size ≤ w2.heap.size := kQ2.size
        have hbl3 := HBl.out
        have x30 := hx3.cell (k := 0) rfl
        have x31 := hx3.cell (k := 1) rfl
        have x32 := hx3.cell (k := 2) rfl
        have x33 := hx3.cell (k := 3) rfl
        have x34 := hx3.cell (k := 4) rfl
        clear HC1 ht k2 kS2 kQ2 hw2 hb2 hx3 hy3
        go_wp2_with fail
        generalize (w2.alloc (.cells #[.int .i64 7, .int .i64 x1, .int .i64 (a : Nat), .int .i64 (b : Nat), .int .i64 x4] 51)).alloc (.cells #[.int .i64 7, .int .i64 0, .int .i64 0, .int .i64 0, .int .i64 0] 51) = w3 at *
        generalize w2.heap.size = b3 at *
        have C4 := Lib.hid (N1.out _ T2 K3.out.tab HW3.out)
        refine C4.out.mono ?_
        rintro e w4 ⟨rfl, ht⟩
        have kt := K3.out.ahead ht
        clear ht
        obtain ⟨S4, T4, k, kS, kQ⟩ := kt
        obtain ⟨hx, hnx⟩ := QKeeps.nbox (S' := fun b => S4 b ∨ b = tb) kQ Hx3.out Hnx3.out kS
        obtain ⟨hy, hny⟩ := QKeeps.nbox (S' := fun b => S4 b ∨ b = tb) kQ Hy3.out Hny3.out kS
        have HW4 := Lib.hid (K3.out.to_below kQ HW3.out)
        have HQ4 := Lib.hid (HQ3.out.trans kQ HS3.out)
        have HS4 := Lib.hid (fun b (hb : S4 b ∨ b = tb) => (kS b hb).elim (HS3.out b) (fun e => (Or.inr (Nat.le_trans HQ3.out.size e) : (S b ∨ b = tb) ∨ w.heap.size ≤ b)))
        have K4 := Lib.hid k
        have Hx4 := Lib.hid hx
        have Hy4 := Lib.hid hy
        have Hnx4 := Lib.hid hnx
        have Hny4 := Lib.hid hny
        have x42 := hx.cell (k := 2) rfl
        clear C4 k kS kQ hx hy hnx hny
        have C5 := Lib.hid (N2.out _ T4 K4.out.tab HW4.out)
        go_wp2_with fail
        refine C5.out.mono ?_
        rintro e w5 ⟨rfl, ht⟩
        have kt := K4.out.ahead ht
        clear ht
        obtain ⟨S5, T5, k, kS, kQ⟩ := kt
        obtain ⟨hx, hnx⟩ := QKeeps.nbox (S' := fun b => S5 b ∨ b = tb) kQ Hx4.out Hnx4.out kS
        obtain ⟨hy, hny⟩ := QKeeps.nbox (S' := fun b => S5 b ∨ b = tb) kQ Hy4.out Hny4.out kS
        have HW5 := Lib.hid (K4.out.to_below kQ HW4.out)
        have HQ5 := Lib.hid (HQ4.out.trans kQ HS4.out)
        have HS5 := Lib.hid (fun b (hb : S5 b ∨ b = tb) => (kS b hb).elim (HS4.out b) (fun e => (Or.inr (Nat.le_trans HQ4.out.size e) : (S b ∨ b = tb) ∨ w.heap.size ≤ b)))
        have K5 := Lib.hid k
        have Hx5 := Lib.hid hx
        have Hy5 := Lib.hid hy
        have Hnx5 := Lib.hid hnx
        have Hny5 := Lib.hid hny
        have x52 := hx.cell (k := 2) rfl
        clear C5 k kS kQ hx hy hnx hny
        have C6 := Lib.hid (M1.out _ S5 T5 K5.out HW5.out)
        go_wp2_with fail
        refine C6.out.mono ?_
        rintro e w6 ⟨v6, rfl, kt⟩
        obtain ⟨S6, T6, k, kS, kQ⟩ := kt
        obtain ⟨hx, hnx⟩ := QKeeps.nbox (S' := fun b => S6 b ∨ b = tb) kQ Hx5.out Hnx5.out kS
        obtain ⟨hy, hny⟩ := QKeeps.nbox (S' := fun b => S6 b ∨ b = tb) kQ Hy5.out Hny5.out kS
        have HW6 := Lib.hid (K5.out.to_below kQ HW5.out)
        have HQ6 := Lib.hid (HQ5.out.trans kQ HS5.out)
        have HS6 := Lib.hid (fun b (hb : S6 b ∨ b = tb) => (kS b hb).elim (HS5.out b) (fun e => (Or.inr (Nat.le_trans HQ5.out.size e) : (S b ∨ b = tb) ∨ w.heap.size ≤ b)))
        have K6 := Lib.hid k
        have Hx6 := Lib.hid hx
        have Hy6 := Lib.hid hy
        have Hnx6 := Lib.hid hnx
        have Hny6 := Lib.hid hny
        have x63 := hx.cell (k := 3) rfl
        clear C6 k kS kQ hx hy hnx hny
        obtain ⟨A6, cv6, hv6⟩ := K6.out.out.own.form
        subst hv6
        generalize hcn7 : n + s.cnt = cn7 at *
        obtain ⟨ia, hia⟩ : ∃ z : Int, (cn7 : Int) - 1 = z := ⟨_, rfl⟩
        have hcast7 : (cn7 : Int) = ia + 1 := by omega
        have hcbd7 : cn7 ≤ 1000 := by omega
        have fz7 := Hy6.out.free 2
        have sz7 := Hy6.out.cell (k := 2) rfl
        have K7 := Lib.hid (K6.out.off (p := ⟨b3 + 1, 2, none⟩) Hny6.out (.int .i64 ia))
        have Hx7 := Lib.hid (Hx6.out.other (a := ⟨b3 + 1, 2, none⟩) hne (.int .i64 ia))
        have Hy7 := Lib.hid (Hy6.out.set 2 (.int .i64 ia))
        have HW7 := Lib.hid (HW6.out.setCell (p := ⟨b3 + 1, 2, none⟩) (by show B ≤ b3 + 1; omega) (.int .i64 ia))
        have HQ7 := Lib.hid (HQ6.out.trans ((QKeeps.refl (fun x => x = b3 + 1) w6).setCell (p := ⟨b3 + 1, 2, none⟩) rfl (.int .i64 ia)) (fun x hx => .inr (by rw [hx]; omega)))
        have HS7 := HS6
        have Hnx7 := Hnx6
        have Hny7 := Hny6
        have x70 := Hx7.out.cell (k := 0) rfl
        have x71 := Hx7.out.cell (k := 1) rfl
        have x72 := Hx7.out.cell (k := 2) rfl
        have x73 := Hx7.out.cell (k := 3) rfl
        have x74 := Hx7.out.cell (k := 4) rfl
        have C8 := Lib.hid (M2.out _ S6 _ _ _ T6 K7.out HW7.out (by omega))
        go_wp2_with fail
        refine C8.out.mono ?_
        rintro e w8 ⟨v8, rfl, kt⟩
        obtain ⟨S8, T8, k, kS, kQ⟩ := kt
        obtain ⟨hx, hnx⟩ := QKeeps.nbox (S' := fun b => S8 b ∨ b = tb) kQ Hx7.out Hnx7.out kS
        obtain ⟨hy, hny⟩ := QKeeps.nbox (S' := fun b => S8 b ∨ b = tb) kQ Hy7.out Hny7.out kS
        have HW8 := Lib.hid (K7.out.to_below kQ HW7.out)
        have HQ8 := Lib.hid (HQ7.out.trans kQ HS7.out)
        have HS8 := Lib.hid (fun b (hb : S8 b ∨ b = tb) => (kS b hb).elim (HS7.out b) (fun e => (Or.inr (Nat.le_trans HQ7.out.size e) : (S b ∨ b = tb) ∨ w.heap.size ≤ b)))
        have K8 := Lib.hid k
        have Hx8 := Lib.hid hx
        have Hy8 := Lib.hid hy
        have Hnx8 := Lib.hid hnx
        have Hny8 := Lib.hid hny
        clear C8 k kS kQ hx hy hnx hny
        obtain ⟨A8, cv8, hv8⟩ := K8.out.out.own.form
        subst hv8
        generalize hcn9 : cn7 + t.cnt = cn9 at *
        obtain ⟨ib, hib⟩ : ∃ z : Int, (cn9 : Int) - 1 = z := ⟨_, rfl⟩
        have hcast9 : (cn9 : Int) = ib + 1 := by omega
        have hcbd9 : cn9 ≤ 1000 := by omega
        have fz9 := Hy8.out.free 3
        have sz9 := Hy8.out.cell (k := 3) rfl
        have K9 := Lib.hid (K8.out.off (p := ⟨b3 + 1, 3, none⟩) Hny8.out (.int .i64 ib))
        have Hx9 := Lib.hid (Hx8.out.other (a := ⟨b3 + 1, 3, none⟩) hne (.int .i64 ib))
        have Hy9 := Lib.hid (Hy8.out.set 3 (.int .i64 ib))
        have HW9 := Lib.hid (HW8.out.setCell (p := ⟨b3 + 1, 3, none⟩) (by show B ≤ b3 + 1; omega) (.int .i64 ib))
        have HQ9 := Lib.hid (HQ8.out.trans ((QKeeps.refl (fun x => x = b3 + 1) w8).setCell (p := ⟨b3 + 1, 3, none⟩) rfl (.int .i64 ib)) (fun x hx => .inr (by rw [hx]; omega)))
        have HS9 := HS8
        have Hnx9 := Hnx8
        have Hny9 := Hny8
        have x90 := Hx9.out.cell (k := 0) rfl
        have x91 := Hx9.out.cell (k := 1) rfl
        have x92 := Hx9.out.cell (k := 2) rfl
        have x93 := Hx9.out.cell (k := 3) rfl
        have x94 := Hx9.out.cell (k := 4) rfl
        have Hy9 : Hid (BoxN _ (b3 + 1) 51 #[.int .i64 7, .int .i64 0, .int .i64 ia, .int .i64 ib, .int .i64 0]) := Hy9
        have q0 := Hy9.out.cell (k := 0) rfl
        have q1 := Hy9.out.cell (k := 1) rfl
        have q2 := Hy9.out.cell (k := 2) rfl
        have q3 := Hy9.out.cell (k := 3) rfl
        have q4 := Hy9.out.cell (k := 4) rfl
        generalize hws : w8.setCell ⟨b3 + 1, 3, none⟩ (.int .i64 ib) = ws at *
        have hbA : Below ws.heap.size ws (ws.alloc (.cells #[.int .i64 7, .int .i64 0, .int .i64 ia, .int .i64 ib, .int .i64 0] 51)) := (Below.refl _ _).alloc (Nat.le_refl _) _
        have hoA := Lib.hid ((K9.out.out.below hbA).own)
        have hgA := Lib.hid (BoxN.new ws 51 #[.int .i64 7, .int .i64 0, .int .i64 ia, .int .i64 ib, .int .i64 0])
        have hlow : Hid (B ≤ (ws.alloc (.cells #[.int .i64 7, .int .i64 0, .int .i64 ia, .int .i64 ib, .int .i64 0] 51)).heap.size) := Lib.hid (by have := hbA.size; have := K9.out.base; omega)
        have hn40 : Hid (cn9 < 2 ^ 40) := Lib.hid (by omega)
        have hQA := Lib.hid (QKeeps.of_below (S := S8) hbA)
        clear hbA
        go_wp2_with (at_builtin; refine wpList_push_nodeB rfl _ _ rfl rfl hoA.out ws.heap.size 7 0 ia ib 0 rfl hgA.out hn40.out hlow.out ?_; intro B' c' w9 ho3 hbk3 hgr3)
        have HT := Lib.hid (KTo.trans HQ9.out HS9.out (K9.out.placed (out_end hQA.out K9.out.out K9.out.base ho3 hbk3 hgr3)))
        clear ho3 hbk3 hgr3
        go_wp2_with fail
        go_ret
        have e1 : ((n + s.cnt - 1 : Nat) : Int) = ia := by omega
        have e2 : ((n + s.cnt + t.cnt - 1 : Nat) : Int) = ib := by omega
        rw [e1, e2, ← List.append_assoc, ← List.append_assoc, hcn7]
        exact ⟨_, rfl, HT.out.cast (by omega)⟩
set_option maxHeartbeats 8000000 in
theorem kept_ite {a b c : Nat} {z : RE} {x y : RS} (hN : NodesAt w0 A0 P n0) (hB : B = w0.heap.size) (hi : i < n0) (h0 : nd P i 0 = 8) (ha : nd P i 2 = a) (hb : nd P i 3 = b) (hc : nd P i 4 = c) (hn : RAheadOk P A0 n0 c0 B tb ct w0 i (RS.ite z x y).st) 
    (hcp : RPlacedOk P A0 n0 c0 B w0 a z.cnt z.lay) (hkb : RKeptOk P A0 n0 c0 B tb ct w0 b x) (hkc : RKeptOk P A0 n0 c0 B tb ct w0 c y) : RKeptOk P A0 n0 c0 B tb ct w0 i (RS.ite z x y) := by
  intro w S v n o T u must h hw hu hcn
  cases hany : ((RS.ite z x y).st.need u).2 with
  | false => exact kept_none hn must h hw hu hcn hany
  | true =>
    have hcut : (RS.ite z x y).cut u = some (.ite z ((x.cut u).getD .skip) ((y.cut u).getD .skip)) := by
      have hc : ((RS.ite z x y).st.need u).2 = true := hany
      simp only [RS.st, St.need] at hc
      simp only [RS.cut]
      split at hc
      · rename_i e; rw [if_pos e]
      · cases hc
    rw [kres_some hcut]
    simp only [RS.cnt] at hcn
    have C1 := hn w T u h.tab hw hu
    rw [hany] at C1
    have hx1 := RS.cut0_cnt x u
    have hy1 := RS.cut0_cnt y u
    have M0 := Lib.hid (fun (W : World) (S2 : Nat → Prop) (hc : OutAt B S2 v n o W) (hW : Below B w0 W) => hcp W S2 v n o hc hW (by omega))
    have M1 := Lib.hid (fun (W : World) (S2 : Nat → Prop) (v2 : Value) (n2 : Nat) (o2 T2 : List Int) (hc : KAt P n0 B tb S2 v2 n2 o2 T2 W) (hW : Below B w0 W) (hc2 : n2 + x.cnt ≤ 1000) => show Calls Tryd.prog 50 _ W fun e w' => ∃ v', e = .returned v' ∧ KTo P n0 B tb S2 v' (n2 + ((x.cut u).getD .skip).cnt) (o2 ++ ((x.cut u).getD .skip).lay n2) W w' from hkb W S2 v2 n2 o2 T2 u true hc hW hu hc2)
    have M2 := Lib.hid (fun (W : World) (S2 : Nat → Prop) (v2 : Value) (n2 : Nat) (o2 T2 : List Int) (hc : KAt P n0 B tb S2 v2 n2 o2 T2 W) (hW : Below B w0 W) (hc2 : n2 + y.cnt ≤ 1000) => show Calls Tryd.prog 50 _ W fun e w' => ∃ v', e = .returned v' ∧ KTo P n0 B tb S2 v' (n2 + ((y.cut u).getD .skip).cnt) (o2 ++ ((y.cut u).getD .skip).lay n2) W w' from hkc W S2 v2 n2 o2 T2 u true hc hW hu hc2)
    generalize ((RS.ite z x y).st.need u).1 = vv at *
    generalize (x.cut u).getD .skip = s at *
    generalize (y.cut u).getD .skip = t at *
    have hp0 := z.pos
    have hp1 := s.pos
    have hp2 := t.pos
    show Calls _ _ _ w fun e w' => ∃ v', e = .returned v' ∧ KTo P n0 B tb S v' (n + (z.cnt + s.cnt + t.cnt + 1)) (o ++ (RS.ite z s t).lay n) w w'
    have hlay : o ++ (RS.ite z s t).lay n = (((o ++ z.lay n) ++ s.lay (n + z.cnt)) ++ t.lay (n + z.cnt + s.cnt)) ++ [8, 0, ((n + z.cnt - 1 : Nat) : Int), ((n + z.cnt + s.cnt - 1 : Nat) : Int), ((n + z.cnt + s.cnt + t.cnt - 1 : Nat) : Int)] := by
      rw [RS.lay]; simp only [List.append_assoc]
    rw [hlay]
    have HC1 := Lib.hid C1
    have HN := Lib.hid hN
    have HW := Lib.hid hw
    have H := Lib.hid h
    have HBe := Lib.hid hB
    have HBl := Lib.hid h.base
    obtain ⟨Av, cv, rfl⟩ := h.out.own.form
    clear C1 hn h hw hany hcp hkb hN hB hcut hlay hkc
    go_enter Tryd.func50, Tryd.ntmps50
    go_wp2_with fail
    refine HC1.out.mono ?_
    rintro e w2 ⟨rfl, ht⟩
    obtain ⟨S2, T2, k2, kS2, kQ2⟩ := H.out.ahead ht
    have hw2 := H.out.to_below kQ2 HW.out
    obtain ⟨ba, offa, hA0, p0, p1, p2, p3, p4⟩ := (HN.out.below (B := 0) (HBe.out ▸ hw2)).cells hi
    subst hA0
    rw [h0] at p0
    rw [ha] at p2
    rw [hb] at p3
    rw [hc] at p4
    have hin := HN.out.small
    generalize nd P i 1 = x1 at *
    have hb2 : Below w2.heap.size w2 ((w2.alloc (.cells #[.int .i64 8, .int .i64 x1, .int .i64 (a : Nat), .int .i64 (b : Nat), .int .i64 (c : Nat)] 51)).alloc (.cells #[.int .i64 8, .int .i64 0, .int .i64 0, .int .i64 0, .int .i64 0] 51)) := below_two _ _
    have hx3 := (BoxN.new w2 51 #[.int .i64 8, .int .i64 x1, .int .i64 (a : Nat), .int .i64 (b : Nat), .int .i64 (c : Nat)]).alloc (.cells #[.int .i64 8, .int .i64 0, .int .i64 0, .int .i64 0, .int .i64 0] 51)
    have hy3 := BoxN.new (w2.alloc (.cells #[.int .i64 8, .int .i64 x1, .int .i64 (a : Nat), .int .i64 (b : Nat), .int .i64 (c : Nat)] 51)) 51 #[.int .i64 8, .int .i64 0, .int .i64 0, .int .i64 0, .int .i64 0]
    rw [show (w2.alloc (.cells #[.int .i64 8, .int .i64 x1, .int .i64 (a : Nat), .int .i64 (b : Nat), .int .i64 (c : Nat)] 51)).heap.size = w2.heap.size + 1 by simp] at hy3
    have hx0 := (BoxN.new w2 51 #[.int .i64 8, .int .i64 x1, .int .i64 (a : Nat), .int .i64 (b : Nat), .int .i64 (c : Nat)]).cell (k := 0) rfl
    have Hx3 := Lib.hid hx3
    have Hy3 := Lib.hid hy3
    have Hnx3 := Lib.hid k2.new
    have Hny3 := Lib.hid k2.new1
    have K3 := Lib.hid (k2.below hb2)
    have HW3 := Lib.hid (hw2.trans (hb2.mono k2.base))
    have HQ3 := Lib.hid (kQ2.trans (QKeeps.of_below (S := fun _ => False) hb2) (fun b hb => hb.elim))
    have HS3 := Lib.hid kS2
    have hne : w2.heap.size ≠ w2.heap.size + 1 := by omega
    have hb3l : w.heap.size ≤ w2.heap.size := kQ2.size
    have hbl3 := HBl.out
    have x30 := hx3.cell (k := 0) rfl
    have x31 := hx3.cell (k := 1) rfl
    have x32 := hx3.cell (k := 2) rfl
    have x33 := hx3.cell (k := 3) rfl
    have x34 := hx3.cell (k := 4) rfl
    clear HC1 ht k2 kS2 kQ2 hw2 hb2 hx3 hy3
    go_wp2_with fail
    generalize (w2.alloc (.cells #[.int .i64 8, .int .i64 x1, .int .i64 (a : Nat), .int .i64 (b : Nat), .int .i64 (c : Nat)] 51)).alloc (.cells #[.int .i64 8, .int .i64 0, .int .i64 0, .int .i64 0, .int .i64 0] 51) = w3 at *
    generalize w2.heap.size = b3 at *
    have C4 := Lib.hid (M0.out _ S2 K3.out.out HW3.out)
    refine C4.out.mono ?_
    rintro e w4 ⟨v4, rfl, kt⟩
    have kt := K3.out.placed kt
    obtain ⟨S4, T4, k, kS, kQ⟩ := kt
    obtain ⟨hx, hnx⟩ := QKeeps.nbox (S' := fun b => S4 b ∨ b = tb) kQ Hx3.out Hnx3.out kS
    obtain ⟨hy, hny⟩ := QKeeps.nbox (S' := fun b => S4 b ∨ b = tb) kQ Hy3.out Hny3.out kS
    have HW4 := Lib.hid (K3.out.to_below kQ HW3.out)
    have HQ4 := Lib.hid (HQ3.out.trans kQ HS3.out)
    have HS4 := Lib.hid (fun b (hb : S4 b ∨ b = tb) => (kS b hb).elim (HS3.out b) (fun e => (Or.inr (Nat.le_trans HQ3.out.size e) : (S b ∨ b = tb) ∨ w.heap.size ≤ b)))
    have K4 := Lib.hid k
    have Hx4 := Lib.hid hx
    have Hy4 := Lib.hid hy
    have Hnx4 := Lib.hid hnx
    have Hny4 := Lib.hid hny
    clear C4 k kS kQ hx hy hnx hny
    obtain ⟨A4, cv4, hv4⟩ := K4.out.out.own.form
    subst hv4
    generalize hcn5 : n + z.cnt = cn5 at *
    obtain ⟨ia, hia⟩ : ∃ z : Int, (cn5 : Int) - 1 = z := ⟨_, rfl⟩
    have hcast5 : (cn5 : Int) = ia + 1 := by omega
    have hcbd5 : cn5 ≤ 1000 := by omega
    have fz5 := Hy4.out.free 2
    have sz5 := Hy4.out.cell (k := 2) rfl
    have K5 := Lib.hid (K4.out.off (p := ⟨b3 + 1, 2, none⟩) Hny4.out (.int .i64 ia))
    have Hx5 := Lib.hid (Hx4.out.other (a := ⟨b3 + 1, 2, none⟩) hne (.int .i64 ia))
    have Hy5 := Lib.hid (Hy4.out.set 2 (.int .i64 ia))
    have HW5 := Lib.hid (HW4.out.setCell (p := ⟨b3 + 1, 2, none⟩) (by show B ≤ b3 + 1; omega) (.int .i64 ia))
    have HQ5 := Lib.hid (HQ4.out.trans ((QKeeps.refl (fun x => x = b3 + 1) w4).setCell (p := ⟨b3 + 1, 2, none⟩) rfl (.int .i64 ia)) (fun x hx => .inr (by rw [hx]; omega)))
    have HS5 := HS4
    have Hnx5 := Hnx4
    have Hny5 := Hny4
    have x50 := Hx5.out.cell (k := 0) rfl
    have x51 := Hx5.out.cell (k := 1) rfl
    have x52 := Hx5.out.cell (k := 2) rfl
    have x53 := Hx5.out.cell (k := 3) rfl
    have x54 := Hx5.out.cell (k := 4) rfl
    have C6 := Lib.hid (M1.out _ S4 _ _ _ T4 K5.out HW5.out (by omega))
    go_wp2_with fail
    refine C6.out.mono ?_
    rintro e w6 ⟨v6, rfl, kt⟩
    obtain ⟨S6, T6, k, kS, kQ⟩ := kt
    obtain ⟨hx, hnx⟩ := QKeeps.nbox (S' := fun b => S6 b ∨ b = tb) kQ Hx5.out Hnx5.out kS
    obtain ⟨hy, hny⟩ := QKeeps.nbox (S' := fun b => S6 b ∨ b = tb) kQ Hy5.out Hny5.out kS
    have HW6 := Lib.hid (K5.out.to_below kQ HW5.out)
    have HQ6 := Lib.hid (HQ5.out.trans kQ HS5.out)
    have HS6 := Lib.hid (fun b (hb : S6 b ∨ b = tb) => (kS b hb).elim (HS5.out b) (fun e => (Or.inr (Nat.le_trans HQ5.out.size e) : (S b ∨ b = tb) ∨ w.heap.size ≤ b)))
    have K6 := Lib.hid k
    have Hx6 := Lib.hid hx
    have Hy6 := Lib.hid hy
    have Hnx6 := Lib.hid hnx
    have Hny6 := Lib.hid hny
    clear C6 k kS kQ hx hy hnx hny
    obtain ⟨A6, cv6, hv6⟩ := K6.out.out.own.form
    subst hv6
    generalize hcn7 : cn5 + s.cnt = cn7 at *
    obtain ⟨ib, hib⟩ : ∃ z : Int, (cn7 : Int) - 1 = z := ⟨_, rfl⟩
    have hcast7 : (cn7 : Int) = ib + 1 := by omega
    have hcbd7 : cn7 ≤ 1000 := by omega
    have fz7 := Hy6.out.free 3
    have sz7 := Hy6.out.cell (k := 3) rfl
    have K7 := Lib.hid (K6.out.off (p := ⟨b3 + 1, 3, none⟩) Hny6.out (.int .i64 ib))
    have Hx7 := Lib.hid (Hx6.out.other (a := ⟨b3 + 1, 3, none⟩) hne (.int .i64 ib))
    have Hy7 := Lib.hid (Hy6.out.set 3 (.int .i64 ib))
    have HW7 := Lib.hid (HW6.out.setCell (p := ⟨b3 + 1, 3, none⟩) (by show B ≤ b3 + 1; omega) (.int .i64 ib))
    have HQ7 := Lib.hid (HQ6.out.trans ((QKeeps.refl (fun x => x = b3 + 1) w6).setCell (p := ⟨b3 + 1, 3, none⟩) rfl (.int .i64 ib)) (fun x hx => .inr (by rw [hx]; omega)))
    have HS7 := HS6
    have Hnx7 := Hnx6
    have Hny7 := Hny6
    have x70 := Hx7.out.cell (k := 0) rfl
    have x71 := Hx7.out.cell (k := 1) rfl
    have x72 := Hx7.out.cell (k := 2) rfl
    have x73 := Hx7.out.cell (k := 3) rfl
    have x74 := Hx7.out.cell (k := 4) rfl
    have C8 := Lib.hid (M2.out _ S6 _ _ _ T6 K7.out HW7.out (by omega))
    go_wp2_with fail
    refine C8.out.mono ?_
    rintro e w8 ⟨v8, rfl, kt⟩
    obtain ⟨S8, T8, k, kS, kQ⟩ := kt
    obtain ⟨hx, hnx⟩ := QKeeps.nbox (S' := fun b => S8 b ∨ b = tb) kQ Hx7.out Hnx7.out kS
    obtain ⟨hy, hny⟩ := QKeeps.nbox (S' := fun b => S8 b ∨ b = tb) kQ Hy7.out Hny7.out kS
    have HW8 := Lib.hid (K7.out.to_below kQ HW7.out)
    have HQ8 := Lib.hid (HQ7.out.trans kQ HS7.out)
    have HS8 := Lib.hid (fun b (hb : S8 b ∨ b = tb) => (kS b hb).elim (HS7.out b) (fun e => (Or.inr (Nat.le_trans HQ7.out.size e) : (S b ∨ b = tb) ∨ w.heap.size ≤ b)))
    have K8 := Lib.hid k
    have Hx8 := Lib.hid hx
    have Hy8 := Lib.hid hy
    have Hnx8 := Lib.hid hnx
    have Hny8 := Lib.hid hny
    clear C8 k kS kQ hx hy hnx hny
    obtain ⟨A8, cv8, hv8⟩ := K8.out.out.own.form
    subst hv8
    generalize hcn9 : cn7 + t.cnt = cn9 at *
    obtain ⟨ic, hic⟩ : ∃ z : Int, (cn9 : Int) - 1 = z := ⟨_, rfl⟩
    have hcast9 : (cn9 : Int) = ic + 1 := by omega
    have hcbd9 : cn9 ≤ 1000 := by omega
    have fz9 := Hy8.out.free 4
    have sz9 := Hy8.out.cell (k := 4) rfl
    have K9 := Lib.hid (K8.out.off (p := ⟨b3 + 1, 4, none⟩) Hny8.out (.int .i64 ic))
    have Hx9 := Lib.hid (Hx8.out.other (a := ⟨b3 + 1, 4, none⟩) hne (.int .i64 ic))
    have Hy9 := Lib.hid (Hy8.out.set 4 (.int .i64 ic))
    have HW9 := Lib.hid (HW8.out.setCell (p := ⟨b3 + 1, 4, none⟩) (by show B ≤ b3 + 1; omega) (.int .i64 ic))
    have HQ9 := Lib.hid (HQ8.out.trans ((QKeeps.refl (fun x => x = b3 + 1) w8).setCell (p := ⟨b3 + 1, 4, none⟩) rfl (.int .i64 ic)) (fun x hx => .inr (by rw [hx]; omega)))
    have HS9 := HS8
    have Hnx9 := Hnx8
    have Hny9 := Hny8
    have x90 := Hx9.out.cell (k := 0) rfl
    have x91 := Hx9.out.cell (k := 1) rfl
    have x92 := Hx9.out.cell (k := 2) rfl
    have x93 := Hx9.out.cell (k := 3) rfl
    have x94 := Hx9.out.cell (k := 4) rfl
    have Hy9 : Hid (BoxN _ (b3 + 1) 51 #[.int .i64 8, .int .i64 0, .int .i64 ia, .int .i64 ib, .int .i64 ic]) := Hy9
    have q0 := Hy9.out.cell (k := 0) rfl
    have q1 := Hy9.out.cell (k := 1) rfl
    have q2 := Hy9.out.cell (k := 2) rfl
    have q3 := Hy9.out.cell (k := 3) rfl
    have q4 := Hy9.out.cell (k := 4) rfl
    generalize hws : w8.setCell ⟨b3 + 1, 4, none⟩ (.int .i64 ic) = ws at *
    have hbA : Below ws.heap.size ws (ws.alloc (.cells #[.int .i64 8, .int .i64 0, .int .i64 ia, .int .i64 ib, .int .i64 ic] 51)) := (Below.refl _ _).alloc (Nat.le_refl _) _
    have hoA := Lib.hid ((K9.out.out.below hbA).own)
    have hgA := Lib.hid (BoxN.new ws 51 #[.int .i64 8, .int .i64 0, .int .i64 ia, .int .i64 ib, .int .i64 ic])
    have hlow : Hid (B ≤ (ws.alloc (.cells #[.int .i64 8, .int .i64 0, .int .i64 ia, .int .i64 ib, .int .i64 ic] 51)).heap.size) := Lib.hid (by have := hbA.size; have := K9.out.base; omega)
    have hn40 : Hid (cn9 < 2 ^ 40) := Lib.hid (by omega)
    have hQA := Lib.hid (QKeeps.of_below (S := S8) hbA)
    clear hbA
    go_wp2_with (at_builtin; refine wpList_push_nodeB rfl _ _ rfl rfl hoA.out ws.heap.size 8 0 ia ib ic rfl hgA.out hn40.out hlow.out ?_; intro B' c' w9 ho3 hbk3 hgr3)
    have HT := Lib.hid (KTo.trans HQ9.out HS9.out (K9.out.placed (out_end hQA.out K9.out.out K9.out.base ho3 hbk3 hgr3)))
    clear ho3 hbk3 hgr3
    go_wp2_with fail
    go_ret
    have e1 : ((n + z.cnt - 1 : Nat) : Int) = ia := by omega
    have e2 : ((n + z.cnt + s.cnt - 1 : Nat) : Int) = ib := by omega
    have e3 : ((n + z.cnt + s.cnt + t.cnt - 1 : Nat) : Int) = ic := by omega
    rw [e1, e2, e3, hcn5, hcn7]
    exact ⟨_, rfl, HT.out.cast (by omega)⟩
set_option maxHeartbeats 8000000 in
theorem kept_loop {a b : Nat} {z : RE} {x : RS} (hN : NodesAt w0 A0 P n0) (hB : B = w0.heap.size) (hi : i < n0) (h0 : nd P i 0 = 9) (ha : nd P i 2 = a) (hb : nd P i 3 = b) (hn : RAheadOk P A0 n0 c0 B tb ct w0 i (RS.loop z x).st) (hx : x.st.ok) (hz : z.ex.ok) (har : ∀ x1 x4, RAroundOk P A0 n0 c0 B tb ct w0 x1 x4 a b z.ex x.st)
    (hcp : RPlacedOk P A0 n0 c0 B w0 a z.cnt z.lay) (hkb : RKeptOk P A0 n0 c0 B tb ct w0 b x) : RKeptOk P A0 n0 c0 B tb ct w0 i (RS.loop z x) := by
  intro w S v n o T u must h hw hu hcn
  cases hany : ((RS.loop z x).st.need u).2 with
  | false => exact kept_none hn must h hw hu hcn hany
  | true =>
    have hneed : (St.loop z.ex x.st).need u = (rise (St.once z.ex x.st) 64 u, true) := by
      have h2 : ((St.loop z.ex x.st).need u).2 = true := hany
      rw [need_loop] at h2 ⊢
      split at h2
      · rename_i e; rw [if_pos e]
      · cases h2
    have hv64 : rise (St.once z.ex x.st) 64 u < 64 := by
      have := need_lt (s := St.loop z.ex x.st) ⟨hz, hx⟩ hu
      rw [hneed] at this
      exact this
    have hcut : (RS.loop z x).cut u = some (.loop z ((x.cut (rise (St.once z.ex x.st) 64 u)).getD .skip)) := by
      have h2 : ((St.loop z.ex x.st).need u).2 = true := hany
      rw [need_loop] at h2
      simp only [RS.cut]
      split at h2
      · rename_i e; rw [if_pos e]
      · cases h2
    rw [kres_some hcut]
    simp only [RS.cnt] at hcn
    have C1 := hn w T u h.tab hw hu
    rw [hany] at C1
    have hx1 := RS.cut0_cnt x (rise (St.once z.ex x.st) 64 u)
    have N1 := Lib.hid (fun (x1 x4 : Int) (W : World) (T2 : List Int) (hc : TabAt P n0 B tb T2 W) (hW : Below B w0 W) => har x1 x4 W T2 u hc hW hu)
    have M0 := Lib.hid (fun (W : World) (S2 : Nat → Prop) (hc : OutAt B S2 v n o W) (hW : Below B w0 W) => hcp W S2 v n o hc hW (by omega))
    have M1 := Lib.hid (fun (W : World) (S2 : Nat → Prop) (v2 : Value) (n2 : Nat) (o2 T2 : List Int) (hc : KAt P n0 B tb S2 v2 n2 o2 T2 W) (hW : Below B w0 W) (hc2 : n2 + x.cnt ≤ 1000) => show Calls Tryd.prog 50 _ W fun e w' => ∃ v', e = .returned v' ∧ KTo P n0 B tb S2 v' (n2 + ((x.cut (rise (St.once z.ex x.st) 64 u)).getD .skip).cnt) (o2 ++ ((x.cut (rise (St.once z.ex x.st) 64 u)).getD .skip).lay n2) W w' from hkb W S2 v2 n2 o2 T2 _ true hc hW hv64 hc2)
    generalize ((RS.loop z x).st.need u).1 = vv at *
    generalize rise (St.once z.ex x.st) 64 u = rv at *
    generalize (x.cut rv).getD .skip = s at *
    have hp0 := z.pos
    have hp1 := s.pos
    show Calls _ _ _ w fun e w' => ∃ v', e = .returned v' ∧ KTo P n0 B tb S v' (n + (z.cnt + s.cnt + 1)) (o ++ (RS.loop z s).lay n) w w'
    have hlay : o ++ (RS.loop z s).lay n = ((o ++ z.lay n) ++ s.lay (n + z.cnt)) ++ [9, 0, ((n + z.cnt - 1 : Nat) : Int), ((n + z.cnt + s.cnt - 1 : Nat) : Int), 0] := by
      rw [RS.lay]; simp only [List.append_assoc]
    rw [hlay]
    have HC1 := Lib.hid C1
    have HN := Lib.hid hN
    have HW := Lib.hid hw
    have H := Lib.hid h
    have HBe := Lib.hid hB
    have HBl := Lib.hid h.base
    obtain ⟨Av, cv, rfl⟩ := h.out.own.form
    clear C1 hn h hw hany hcp hkb hN hB hcut hlay har hneed
    go_enter Tryd.func50, Tryd.ntmps50
    go_wp2_with fail
    refine HC1.out.mono ?_
    rintro e w2 ⟨rfl, ht⟩
    obtain ⟨S2, T2, k2, kS2, kQ2⟩ := H.out.ahead ht
    have hw2 := H.out.to_below kQ2 HW.out
    obtain ⟨ba, offa, hA0, p0, p1, p2, p3, p4⟩ := (HN.out.below (B := 0) (HBe.out ▸ hw2)).cells hi
    subst hA0
    rw [h0] at p0
    rw [ha] at p2
    rw [hb] at p3
    have hin := HN.out.small
    generalize nd P i 1 = x1 at *
    generalize nd P i 4 = x4 at *
    have hb2 : Below w2.heap.size w2 ((w2.alloc (.cells #[.int .i64 9, .int .i64 x1, .int .i64 (a : Nat), .int .i64 (b : Nat), .int .i64 x4] 51)).alloc (.cells #[.int .i64 9, .int .i64 0, .int .i64 0, .int .i64 0, .int .i64 0] 51)) := below_two _ _
    have hx3 := (BoxN.new w2 51 #[.int .i64 9, .int .i64 x1, .int .i64 (a : Nat), .int .i64 (b : Nat), .int .i64 x4]).alloc (.cells #[.int .i64 9, .int .i64 0, .int .i64 0, .int .i64 0, .int .i64 0] 51)
    have hy3 := BoxN.new (w2.alloc (.cells #[.int .i64 9, .int .i64 x1, .int .i64 (a : Nat), .int .i64 (b : Nat), .int .i64 x4] 51)) 51 #[.int .i64 9, .int .i64 0, .int .i64 0, .int .i64 0, .int .i64 0]
    rw [show (w2.alloc (.cells #[.int .i64 9, .int .i64 x1, .int .i64 (a : Nat), .int .i64 (b : Nat), .int .i64 x4] 51)).heap.size = w2.heap.size + 1 by simp] at hy3
    have hx0 := (BoxN.new w2 51 #[.int .i64 9, .int .i64 x1, .int .i64 (a : Nat), .int .i64 (b : Nat), .int .i64 x4]).cell (k := 0) rfl
    have Hx3 := Lib.hid hx3
    have Hy3 := Lib.hid hy3
    have Hnx3 := Lib.hid k2.new
    have Hny3 := Lib.hid k2.new1
    have K3 := Lib.hid (k2.below hb2)
    have HW3 := Lib.hid (hw2.trans (hb2.mono k2.base))
    have HQ3 := Lib.hid (kQ2.trans (QKeeps.of_below (S := fun _ => False) hb2) (fun b hb => hb.elim))
    have HS3 := Lib.hid kS2
    have hne : w2.heap.size ≠ w2.heap.size + 1 := by omega
    have hb3l : w.heap.size ≤ w2.heap.size := kQ2.size
    have hbl3 := HBl.out
    have x30 := hx3.cell (k := 0) rfl
    have x31 := hx3.cell (k := 1) rfl
    have x32 := hx3.cell (k := 2) rfl
    have x33 := hx3.cell (k := 3) rfl
    have x34 := hx3.cell (k := 4) rfl
    clear HC1 ht k2 kS2 kQ2 hw2 hb2 hx3 hy3
    go_wp2_with fail
    generalize (w2.alloc (.cells #[.int .i64 9, .int .i64 x1, .int .i64 (a : Nat), .int .i64 (b : Nat), .int .i64 x4] 51)).alloc (.cells #[.int .i64 9, .int .i64 0, .int .i64 0, .int .i64 0, .int .i64 0] 51) = w3 at *
    generalize w2.heap.size = b3 at *
    have C4 := Lib.hid (M0.out _ S2 K3.out.out HW3.out)
    refine C4.out.mono ?_
    rintro e w4 ⟨v4, rfl, kt⟩
    have kt := K3.out.placed kt
    obtain ⟨S4, T4, k, kS, kQ⟩ := kt
    obtain ⟨hx, hnx⟩ := QKeeps.nbox (S' := fun b => S4 b ∨ b = tb) kQ Hx3.out Hnx3.out kS
    obtain ⟨hy, hny⟩ := QKeeps.nbox (S' := fun b => S4 b ∨ b = tb) kQ Hy3.out Hny3.out kS
    have HW4 := Lib.hid (K3.out.to_below kQ HW3.out)
    have HQ4 := Lib.hid (HQ3.out.trans kQ HS3.out)
    have HS4 := Lib.hid (fun b (hb : S4 b ∨ b = tb) => (kS b hb).elim (HS3.out b) (fun e => (Or.inr (Nat.le_trans HQ3.out.size e) : (S b ∨ b = tb) ∨ w.heap.size ≤ b)))
    have K4 := Lib.hid k
    have Hx4 := Lib.hid hx
    have Hy4 := Lib.hid hy
    have Hnx4 := Lib.hid hnx
    have Hny4 := Lib.hid hny
    clear C4 k kS kQ hx hy hnx hny
    obtain ⟨A4, cv4, hv4⟩ := K4.out.out.own.form
    subst hv4
    generalize hcn5 : n + z.cnt = cn5 at *
    obtain ⟨ia, hia⟩ : ∃ z : Int, (cn5 : Int) - 1 = z := ⟨_, rfl⟩
    have hcast5 : (cn5 : Int) = ia + 1 := by omega
    have hcbd5 : cn5 ≤ 1000 := by omega
    have fz5 := Hy4.out.free 2
    have sz5 := Hy4.out.cell (k := 2) rfl
    have K5 := Lib.hid (K4.out.off (p := ⟨b3 + 1, 2, none⟩) Hny4.out (.int .i64 ia))
    have Hx5 := Lib.hid (Hx4.out.other (a := ⟨b3 + 1, 2, none⟩) hne (.int .i64 ia))
    have Hy5 := Lib.hid (Hy4.out.set 2 (.int .i64 ia))
    have HW5 := Lib.hid (HW4.out.setCell (p := ⟨b3 + 1, 2, none⟩) (by show B ≤ b3 + 1; omega) (.int .i64 ia))
    have HQ5 := Lib.hid (HQ4.out.trans ((QKeeps.refl (fun x => x = b3 + 1) w4).setCell (p := ⟨b3 + 1, 2, none⟩) rfl (.int .i64 ia)) (fun x hx => .inr (by rw [hx]; omega)))
    have HS5 := HS4
    have Hnx5 := Hnx4
    have Hny5 := Hny4
    have x50 := Hx5.out.cell (k := 0) rfl
    have x51 := Hx5.out.cell (k := 1) rfl
    have x52 := Hx5.out.cell (k := 2) rfl
    have x53 := Hx5.out.cell (k := 3) rfl
    have x54 := Hx5.out.cell (k := 4) rfl
    have C6 := Lib.hid (N1.out x1 x4 _ T4 K5.out.tab HW5.out)
    go_wp2_with fail
    refine C6.out.mono ?_
    rintro e w6 ⟨rfl, ht⟩
    have kt := K5.out.ahead ht
    clear ht
    obtain ⟨S6, T6, k, kS, kQ⟩ := kt
    obtain ⟨hx, hnx⟩ := QKeeps.nbox (S' := fun b => S6 b ∨ b = tb) kQ Hx5.out Hnx5.out kS
    obtain ⟨hy, hny⟩ := QKeeps.nbox (S' := fun b => S6 b ∨ b = tb) kQ Hy5.out Hny5.out kS
    have HW6 := Lib.hid (K5.out.to_below kQ HW5.out)
    have HQ6 := Lib.hid (HQ5.out.trans kQ HS5.out)
    have HS6 := Lib.hid (fun b (hb : S6 b ∨ b = tb) => (kS b hb).elim (HS5.out b) (fun e => (Or.inr (Nat.le_trans HQ5.out.size e) : (S b ∨ b = tb) ∨ w.heap.size ≤ b)))
    have K6 := Lib.hid k
    have Hx6 := Lib.hid hx
    have Hy6 := Lib.hid hy
    have Hnx6 := Lib.hid hnx
    have Hny6 := Lib.hid hny
    have x60 := hx.cell (k := 0) rfl
    have x61 := hx.cell (k := 1) rfl
    have x62 := hx.cell (k := 2) rfl
    have x63 := hx.cell (k := 3) rfl
    have x64 := hx.cell (k := 4) rfl
    clear C6 k kS kQ hx hy hnx hny
    have C8 := Lib.hid (M1.out _ S6 _ _ _ T6 K6.out HW6.out (by omega))
    go_wp2_with fail
    refine C8.out.mono ?_
    rintro e w8 ⟨v8, rfl, kt⟩
    obtain ⟨S8, T8, k, kS, kQ⟩ := kt
    obtain ⟨hx, hnx⟩ := QKeeps.nbox (S' := fun b => S8 b ∨ b = tb) kQ Hx6.out Hnx6.out kS
    obtain ⟨hy, hny⟩ := QKeeps.nbox (S' := fun b => S8 b ∨ b = tb) kQ Hy6.out Hny6.out kS
    have HW8 := Lib.hid (K6.out.to_below kQ HW6.out)
    have HQ8 := Lib.hid (HQ6.out.trans kQ HS6.out)
    have HS8 := Lib.hid (fun b (hb : S8 b ∨ b = tb) => (kS b hb).elim (HS6.out b) (fun e => (Or.inr (Nat.le_trans HQ6.out.size e) : (S b ∨ b = tb) ∨ w.heap.size ≤ b)))
    have K8 := Lib.hid k
    have Hx8 := Lib.hid hx
    have Hy8 := Lib.hid hy
    have Hnx8 := Lib.hid hnx
    have Hny8 := Lib.hid hny
    have x80 := hx.cell (k := 0) rfl
    clear C8 k kS kQ hx hy hnx hny
    obtain ⟨A8, cv8, hv8⟩ := K8.out.out.own.form
    subst hv8
    generalize hcn9 : cn5 + s.cnt = cn9 at *
    obtain ⟨ib, hib⟩ : ∃ z : Int, (cn9 : Int) - 1 = z := ⟨_, rfl⟩
    have hcast9 : (cn9 : Int) = ib + 1 := by omega
    have hcbd9 : cn9 ≤ 1000 := by omega
    have fz9 := Hy8.out.free 3
    have sz9 := Hy8.out.cell (k := 3) rfl
    have K9 := Lib.hid (K8.out.off (p := ⟨b3 + 1, 3, none⟩) Hny8.out (.int .i64 ib))
    have Hx9 := Lib.hid (Hx8.out.other (a := ⟨b3 + 1, 3, none⟩) hne (.int .i64 ib))
    have Hy9 := Lib.hid (Hy8.out.set 3 (.int .i64 ib))
    have HW9 := Lib.hid (HW8.out.setCell (p := ⟨b3 + 1, 3, none⟩) (by show B ≤ b3 + 1; omega) (.int .i64 ib))
    have HQ9 := Lib.hid (HQ8.out.trans ((QKeeps.refl (fun x => x = b3 + 1) w8).setCell (p := ⟨b3 + 1, 3, none⟩) rfl (.int .i64 ib)) (fun x hx => .inr (by rw [hx]; omega)))
    have HS9 := HS8
    have Hnx9 := Hnx8
    have Hny9 := Hny8
    have x90 := Hx9.out.cell (k := 0) rfl
    have x91 := Hx9.out.cell (k := 1) rfl
    have x92 := Hx9.out.cell (k := 2) rfl
    have x93 := Hx9.out.cell (k := 3) rfl
    have x94 := Hx9.out.cell (k := 4) rfl
    have Hy9 : Hid (BoxN _ (b3 + 1) 51 #[.int .i64 9, .int .i64 0, .int .i64 ia, .int .i64 ib, .int .i64 0]) := Hy9
    have q0 := Hy9.out.cell (k := 0) rfl
    have q1 := Hy9.out.cell (k := 1) rfl
    have q2 := Hy9.out.cell (k := 2) rfl
    have q3 := Hy9.out.cell (k := 3) rfl
    have q4 := Hy9.out.cell (k := 4) rfl
    generalize hws : w8.setCell ⟨b3 + 1, 3, none⟩ (.int .i64 ib) = ws at *
    have hbA : Below ws.heap.size ws (ws.alloc (.cells #[.int .i64 9, .int .i64 0, .int .i64 ia, .int .i64 ib, .int .i64 0] 51)) := (Below.refl _ _).alloc (Nat.le_refl _) _
    have hoA := Lib.hid ((K9.out.out.below hbA).own)
    have hgA := Lib.hid (BoxN.new ws 51 #[.int .i64 9, .int .i64 0, .int .i64 ia, .int .i64 ib, .int .i64 0])
    have hlow : Hid (B ≤ (ws.alloc (.cells #[.int .i64 9, .int .i64 0, .int .i64 ia, .int .i64 ib, .int .i64 0] 51)).heap.size) := Lib.hid (by have := hbA.size; have := K9.out.base; omega)
    have hn40 : Hid (cn9 < 2 ^ 40) := Lib.hid (by omega)
    have hQA := Lib.hid (QKeeps.of_below (S := S8) hbA)
    clear hbA
    go_wp2_with (at_builtin; refine wpList_push_nodeB rfl _ _ rfl rfl hoA.out ws.heap.size 9 0 ia ib 0 rfl hgA.out hn40.out hlow.out ?_; intro B' c' w9 ho3 hbk3 hgr3)
    have HT := Lib.hid (KTo.trans HQ9.out HS9.out (K9.out.placed (out_end hQA.out K9.out.out K9.out.base ho3 hbk3 hgr3)))
    clear ho3 hbk3 hgr3
    go_wp2_with fail
    go_ret
    have e1 : ((n + z.cnt - 1 : Nat) : Int) = ia := by omega
    have e2 : ((n + z.cnt + s.cnt - 1 : Nat) : Int) = ib := by omega
    rw [e1, e2, hcn5]
    exact ⟨_, rfl, HT.out.cast (by omega)⟩
theorem kept_rs (hN : NodesAt w0 A0 P n0) (hB : B = w0.heap.size) (h80 : n0 ≤ 80) {s : RS} (h : IsRS P i s) : i < n0 → RKeptOk P A0 n0 c0 B tb ct w0 i s := by
  induction h with
  | @skip i h0 => exact fun hi w S v n o T u must h hw hu hcn => kept_none (rneed_st hN hB h80 (.skip h0) hi) must h hw hu hcn rfl
  | @set i a x1 x3 x4 x h0 h1 hn hn6 ha h3 h4 la he => exact fun hi => kept_set hN hB hi h0 (rneed_st hN hB h80 (IsRS.set h0 h1 hn hn6 ha h3 h4 la he).is hi) (placed_set hN hB hi h0 h1 ha h3 h4 (placed_re hN hB he (by omega)))
  | @both i a b x y h0 ha hb la lb hx hy iha ihb => exact fun hi => kept_both hN hB hi h0 ha hb hy.is.ok (rneed_st hN hB h80 (IsRS.both h0 ha hb la lb hx hy).is hi) (rneed_st hN hB h80 hy.is (by omega)) (rneed_st hN hB h80 hx.is (by omega)) (iha (by omega)) (ihb (by omega))
  | @ite i a b c z x y h0 ha hb hc la lb lc hz hx hy ihb ihc => exact fun hi => kept_ite hN hB hi h0 ha hb hc (rneed_st hN hB h80 (IsRS.ite h0 ha hb hc la lb lc hz hx hy).is hi) (placed_re hN hB hz (by omega)) (ihb (by omega)) (ihc (by omega))
  | @loop i a b z x h0 ha hb la lb hz hx ihb => exact fun hi => kept_loop hN hB hi h0 ha hb (rneed_st hN hB h80 (IsRS.loop h0 ha hb la lb hz hx).is hi) hx.is.ok hz.is.ok (fun x1 x4 => raround_of hN hB hx.is.ok (by omega) hz.is (rneed_st hN hB h80 hx.is (by omega))) (placed_re hN hB hz (by omega)) (ihb (by omega))
end
end Go.Proofs.YtdgncngkalgknaaDoor

namespace Go.Proofs.YtdgncngkalgknaaDoor
open Go.RowKit Go.Maps
set_option maxRecDepth 100000
set_option linter.unusedVariables false
theorem sInfoInt : (Tryd.prog.info? 3).map (fun i => (i.zero, i.size, i.bytes)) = some (some (.int .i64 0), 1, 8) := by kernel_rfl
/-- A row of the table while it is laid: -1 so far, 0 behind. -/
def tabL (m k : Nat) : List Int := List.replicate k (-1) ++ List.replicate (m - k) 0
theorem tabL_len {m k : Nat} (h : k ≤ m) : (tabL m k).length = m := by unfold tabL; simp; omega
theorem tabL_next {m k : Nat} (h : k < m) : (tabL m k).set k (-1) = tabL m (k + 1) := by
  unfold tabL
  obtain ⟨q, hq⟩ : ∃ q, m - k = q + 1 := ⟨m - k - 1, by omega⟩
  rw [hq, show m - (k + 1) = q by omega, List.replicate_succ, List.set_append_right _ _ (by simp)]
  simp [List.replicate_succ', List.append_assoc]
theorem tabL_full (m : Nat) : tabL m m = List.replicate m (-1) := by unfold tabL; simp
set_option maxHeartbeats 4000000 in
theorem Table_any {A : Option Addr} {n c : Nat} (h80 : n ≤ 80) (w : World) : Calls Tryd.prog 21 #[.slice A n c] w fun e w' => e = .returned (.slice (some ⟨w.heap.size, 0, none⟩) (64 * n) (64 * n)) ∧ RowB w' w.heap.size (List.replicate (64 * n) (-1)) ∧ Below w.heap.size w w' := by
  have hmk : ∀ V : World, (Instr.makeSlice 22 (.int .i64 (64 * (n : Int))) (.int .i64 (64 * (n : Int)))).run Tryd.prog V = .ok (.slice (some ⟨V.heap.size, 0, none⟩) (64 * n) (64 * n)) (V.alloc (.cells (madeCells #[Value.int .i64 0] (64 * n)) 3)) := fun V => by
    obtain ⟨ti, hi, hz0, hz1, hz2⟩ := info_parts sInfoInt
    rw [show (64 : Int) * (n : Int) = ((64 * n : Nat) : Int) by omega]
    have := run_make (P := Tryd.prog) (w := V) 22 3 ti _ Tryd.underlying22 hi hz0 .i64 .i64 ((64 * n : Nat) : Int) ((64 * n : Nat) : Int) (by omega) (Int.le_refl _) (by rw [hz2]; omega) (by omega)
    rw [hz1, Int.toNat_natCast, Nat.mul_one] at this
    exact this
  have hn0 : (n : Int) ≤ 80 := by omega
  have hrow0 : RowB (w.alloc (.cells (madeCells #[Value.int .i64 0] (64 * n)) 3)) w.heap.size (tabL (64 * n) 0) := by
    have h0 := BoxN.new w 3 (madeCells #[Value.int .i64 0] (64 * n))
    have he : madeCells #[Value.int .i64 0] (64 * n) = ((tabL (64 * n) 0).map (Value.int .i64)).toArray := by
      apply Array.toList_inj.1; rw [toList_madeCells_one]; unfold tabL; simp
    unfold RowB
    rw [← he]
    exact h0
  have hb1 := (Below.refl w.heap.size w).alloc (Nat.le_refl _) (.cells (madeCells #[Value.int .i64 0] (64 * n)) 3)
  go_enter Tryd.func21, Tryd.ntmps21
  go_wp2_with fail
  clear hmk
  generalize w.alloc (.cells (madeCells #[Value.int .i64 0] (64 * n)) 3) = w1 at *
  generalize hm : 64 * n = m at *
  have hm2 : (m : Int) ≤ 5120 := by omega
  go_loopw [4] (fun i wr => ∃ k : Nat, k ≤ m ∧ i = .int .i64 k ∧ RowB wr w.heap.size (tabL m k) ∧ Below w.heap.size w wr) (fun i _ => m - (intOf i).toNat)
  case atStart => exact ⟨0, Nat.zero_le _, rfl, hrow0, hb1⟩
  case round =>
    obtain ⟨k, hk, rfl, hrow, hb⟩ := hrel
    by_cases hlt : k < m
    · have hk2 : (k : Int) < m := by omega
      obtain ⟨x, hx⟩ : ∃ x, (tabL m k)[k]? = some x := ⟨_, List.getElem?_eq_getElem (by rw [tabL_len hk]; exact hlt)⟩
      have y0 := hrow.at_ hx
      have f0 := BoxN.free hrow k
      have Hr := Lib.hid (RowB.put hrow k (-1))
      have Hb := Lib.hid (hb.setCell (p := ⟨w.heap.size, k, none⟩) (Nat.le_refl _) (.int .i64 (-1)))
      clear hrow hb hx
      go_wp2_with fail
      refine ⟨⟨k + 1, ?ya, ?yb, ?yc, Hb.out⟩, ?yd⟩
      case ya => omega
      case yb => go_num
      case yc => rw [← tabL_next hlt]; exact Hr.out
      case yd => simp [intOf]; omega
    · obtain rfl : k = m := by omega
      rw [tabL_full] at hrow
      go_wp2_with fail
      go_ret
      exact ⟨by rw [hm]; rfl, by rw [hm]; exact hrow, hb⟩
theorem TabAt.new {P : List Int} {n0 B tb : Nat} {w : World} (h : RowB w tb (List.replicate (64 * n0) (-1))) (hB : B ≤ tb) : TabAt P n0 B tb (List.replicate (64 * n0) (-1)) w :=
  ⟨h, hB, List.length_replicate, fun i u x hi hu hx => .inl (by rw [List.getElem?_replicate] at hx; split at hx <;> simp_all)⟩
set_option maxHeartbeats 4000000 in
theorem RCut_any {P : List Int} {n c k u : Nat} {A : Option Addr} {w : World} {s : RS} (h : NodesAt w A P (n + 1)) (hs : IsRS P n s) (hcn : s.cnt ≤ n + 1) (h80 : n + 1 ≤ 80) (hk : k < 6) (hu : 2 ^ k = u) :
    Calls Tryd.prog 19 #[.slice A (n + 1) c, .int .i64 k] w fun e w' => (∃ A' c', e = .returned (.slice A' ((s.cut u).getD .skip).cnt c') ∧ NodesAt w' A' (((s.cut u).getD .skip).lay 0) ((s.cut u).getD .skip).cnt) ∧ Below w.heap.size w w' := by
  have hu64 : u < 64 := by subst hu; exact Nat.pow_lt_pow_right (n := 6) (by decide) hk
  have CT := Lib.hid (Table_any (A := A) (c := c) h80 w)
  have CP := Lib.hid (fun V => Pow2_any k V (by omega))
  rw [hu] at CP
  have hct := RS.cut0_cnt s u
  have CK := Lib.hid (fun (W : World) (hW : Below w.heap.size w W) (hr : RowB W w.heap.size (List.replicate (64 * (n + 1)) (-1))) => kept_rs (c0 := c) (tb := w.heap.size) (ct := 64 * (n + 1)) h rfl h80 hs (Nat.lt_succ_self n) W (fun _ => False) (.slice none 0 0) 0 [] _ u true ⟨⟨OwnN.nil _ _, fun g hg => by simp [Value.ownBlock] at hg, fun b hb => hb.elim, fun b hb => hb.elim⟩, TabAt.new hr (Nat.le_refl _), fun e => e⟩ hW hu64 (by omega))
  rw [show kres s u true = some ((s.cut u).getD .skip) from rfl] at CK
  generalize (s.cut u).getD .skip = t at *
  have CK : Hid (∀ (W : World), Below w.heap.size w W → RowB W w.heap.size (List.replicate (64 * (n + 1)) (-1)) → Calls Tryd.prog 50 #[.slice none 0 0, .slice A (n + 1) c, .slice (some ⟨w.heap.size, 0, none⟩) (64 * (n + 1)) (64 * (n + 1)), .int .i64 n, .int .i64 u, .bool true] W fun e w' => ∃ v', e = .returned v' ∧ KTo P (n + 1) w.heap.size w.heap.size (fun _ => False) v' (0 + t.cnt) ([] ++ t.lay 0) W w') := CK
  clear h hs
  go_enter Tryd.func19, Tryd.ntmps19
  go_wp2_with fail
  refine CT.out.mono ?_
  rintro e w1 ⟨rfl, hr1, hb1⟩
  have C2 := Lib.hid (CK.out w1 hb1 hr1)
  have HB1 := Lib.hid hb1
  clear CT CK hr1 hb1
  go_wp2_with fail
  refine (CP.out _).mono ?_
  rintro e w2 ⟨rfl, rfl⟩
  go_wp2_with fail
  refine C2.out.mono ?_
  rintro e w3 ⟨v3, rfl, S3, T3, k3, -, kQ3⟩
  rw [Nat.zero_add, List.nil_append] at k3
  obtain ⟨A3, c3, rfl⟩ := k3.out.own.form
  have HNo := Lib.hid (show NodesAt w3 A3 (t.lay 0) t.cnt from ⟨(CellsAt.own k3.out.own.2).ints, k3.out.own.1, by omega⟩)
  have HB3 := Lib.hid (kQ3.to_below (fun b hb => hb.elim (fun e => e.elim) (fun e => Nat.le_of_eq e.symm)) HB1.out HB1.out.size)
  clear C2 k3 kQ3
  go_wp2_with fail
  go_ret
  exact ⟨⟨A3, c3, rfl, HNo.out⟩, HB3.out⟩
end Go.Proofs.YtdgncngkalgknaaDoor
