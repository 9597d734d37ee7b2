/-
  Contract: take.Plan.
-/
import Derived.Test.YtpfmllpodjcldaaDoorPlanLaw3
import Derived.Laws.EntriesVeiled
namespace Go.Proofs.YtpfmllpodjcldaaDoor
open Go.RowKit
set_option maxRecDepth 100000
set_option linter.unusedVariables false

/-- What Plan tells. -/
def PlanPost (L : List (List Int)) (kb who over : Nat) (e : Ending) (w' : World) : Prop :=
  (∃ (p : List Nat) (x : Nat), WayTo (gE L) who p x ∧ gGood L kb over x ∧ (∀ p' x', WayTo (gE L) who p' x' → gGood L kb over x' → SLe p p') ∧
    ((20 < (planFrom L over (2 ^ kb : Nat) p (p.length - 1) ([], L.length)).2 ∨ 60 < (planFrom L over (2 ^ kb : Nat) p (p.length - 1) ([], L.length)).1.length) ∧ e = .returned (.tuple #[.slice none 0 0, .iface 59 (.int .i64 4)]) ∨
    ¬ (20 < (planFrom L over (2 ^ kb : Nat) p (p.length - 1) ([], L.length)).2 ∨ 60 < (planFrom L over (2 ^ kb : Nat) p (p.length - 1) ([], L.length)).1.length) ∧ ∃ A c, e = .returned (.tuple #[.slice A (planFrom L over (2 ^ kb : Nat) p (p.length - 1) ([], L.length)).1.length c, .nilIface]) ∧ IntsAt w' A (flatS (planFrom L over (2 ^ kb : Nat) p (p.length - 1) ([], L.length)).1))) ∨
  (e = .returned (.tuple #[.slice none 0 0, .iface 59 (.int .i64 5)]) ∧ ∀ p' x', WayTo (gE L) who p' x' → ¬ gGood L kb over x')

theorem planBox (w : World) (t : TypeId) (vs : Array Value) (p : Nat) (hp : p = w.heap.size) : BoxN (w.alloc (.cells vs t)) p t vs := by subst hp; exact BoxN.new w t vs
theorem planW_new (w : World) (n : Nat) : PlanW w.heap.size w ((((w.alloc (.cells #[.slice none 0 0] 23)).alloc (.cells #[.int .i64 n] 3)).alloc (.cells #[fStep w.heap.size] 77)).alloc (.cells #[fMade w.heap.size] 78)) [] n where
  below := ((((Below.refl _ w).alloc (Nat.le_refl _) _).alloc (by simp) _).alloc (by simp; omega) _).alloc (by simp; omega) _
  low := by simp; omega
  out := ⟨_, (((BoxN.new w _ _).alloc _).alloc _).alloc _, OwnS.nil _ _⟩
  num := ((planBox _ _ _ _ (by simp)).alloc _).alloc _
  step := (planBox _ _ _ _ (by simp)).alloc _
  made := planBox _ _ _ _ (by simp)
theorem planFrom_pass {L : List (List Int)} {over : Nat} {r : Int} {way : List Nat} {j : Nat} {st : List GStep × Nat} (h : way.getD j 0 ≠ over) : planFrom L over r way (j + 1) st = planFrom L over r way j (passSt L (way.getD j 0) (way.getD (j + 1) 0) over r st) := by
  cases j with
  | zero =>
    show (if way.getD 0 0 ≠ over then _ else _) = _
    rw [if_pos h]; rfl
  | succ j => rw [planFrom, if_pos h]
theorem planFrom_round {L : List (List Int)} {over : Nat} {r : Int} {way : List Nat} {j : Nat} {st : List GStep × Nat} (h : way.getD (j + 1) 0 = over) : planFrom L over r way (j + 2) st = planFrom L over r way j (roundSt L over r (way.getD j 0) (way.getD (j + 2) 0) st) := by
  rw [planFrom, if_neg (fun e => e h)]
set_option maxHeartbeats 16000000 in
theorem Plan_ok {w : World} {A : Option Addr} {c n : Nat} {L : List (List Int)} (hL : RowsIn anyB 1 w A L) (hn : L.length = n) (hg : GOk L) {kb who over : Nat} (hk : kb < 3) (hw : who < n) (ho : over < n) (hne : who ≠ over) :
    Calls Tryd.prog 17 #[.slice A n c, .int .i64 (2 ^ kb : Nat), .int .i64 who, .int .i64 over] w fun e w' => PlanPost L kb who over e w' ∧ Below w.heap.size w w' := by
  have hn20 : n ≤ 20 := by have := hg.few; omega
  obtain ⟨gb, go, _, _, _, rfl, _⟩ := row_int hg hL hn hw
  have hbx := BoxN.new w 22 #[.slice (some ⟨gb, go, none⟩) n c]
  have hb0 := (Below.refl w.heap.size w).alloc (Nat.le_refl _) (.cells #[.slice (some ⟨gb, go, none⟩) n c] 22)
  have HC := Lib.hid (Chain_ok (c := c) (hL.below hb0) hn hg hk hw ho hne)
  have HL := Lib.hid hL
  have Hg := Lib.hid hg
  have y0 := hbx.cell (k := 0) rfl
  have Hne := Lib.hid hne
  have Hk := Lib.hid hk
  have Hn := Lib.hid hn
  obtain ⟨r, hr⟩ : ∃ r, 2 ^ kb = r := ⟨_, rfl⟩
  rw [hr] at HC ⊢
  have Hr := Lib.hid hr
  clear hL hg hr hn
  go_enter Tryd.func17, Tryd.ntmps17
  go_wp2_with fail
  generalize w.alloc (.cells #[.slice (some ⟨gb, go, none⟩) n c] 22) = w1 at *
  refine HC.out.mono ?_
  rintro e w2 ⟨hp | ⟨rfl, hno⟩, hb2⟩
  · obtain ⟨p, x, Aw, cw, rfl, iw, h1, h2, h3⟩ := hp
    have hw2 := hb0.trans (hb2.mono hb0.size)
    have hbx2 := hbx.all hb2
    have y0 := hbx2.cell (k := 0) rfl
    have hlt2 := hbx2.lt
    have hpw := planW_new w2 n
    have hnd := least_nodup h1 h2 h3
    have hpl : p.length ≤ n := nodup_le hnd (way_lt hw (fun x y h => by have := h.2.1; have := Hn.out; omega) h1)
    have hlt : ∀ i, i < p.length → p.getD i 0 < n := fun i hi => way_lt hw (fun x y h => by have := h.2.1; have := Hn.out; omega) h1 _ (getD_mem hi)
    have hp0 := h1.pos
    have Hnd := Lib.hid hnd
    clear HC hnd
    go_wp2_with fail
    have hhead := h1.head
    have Hway := Lib.hid h1
    have Hgood := Lib.hid h2
    have Hleast := Lib.hid h3
    have Hlt := Lib.hid hlt
    have Hhead := Lib.hid hhead
    have HL2 := Lib.hid (HL.out.below hw2)
    have Hbx := Lib.hid hbx2
    have Hiw := Lib.hid iw
    have Hw2 := Lib.hid hw2
    clear h1 h2 h3 hlt hhead y0 hbx2 iw hbx hb2
    obtain ⟨b8, off8, rfl, hc8⟩ := Hiw.out (by intro e; have := length_castL p; rw [e] at this; simp at this; omega)
    have Hc8 := Lib.hid (show ∀ i, i < p.length → w2.cell? ⟨b8, off8 + i, none⟩ = some (.int .i64 (p.getD i 0 : Nat)) from fun i hi => hc8 i _ (by unfold castL; rw [List.getElem?_map, getD_lt (d := 0) hi]; rfl))
    clear hc8
    go_loopw [17] (fun i wr => ∃ (k : Nat) (S : List GStep) (v : Nat), i = .int .i64 k ∧ k < p.length ∧ PlanW w2.heap.size w2 wr S v ∧ Hid (planFrom L over r p k (S, v) = planFrom L over r p (p.length - 1) ([], n)) ∧ S.length + 6 * k ≤ 6 * p.length ∧ v + 2 * k ≤ n + 2 * p.length) (fun i _ => (intOf i).toNat)
    case atStart => exact ⟨p.length - 1, [], n, by rw [show ((p.length - 1 : Nat) : Int) = (p.length : Int) - 1 by omega], by omega, hpw, Lib.hid rfl, by simp; omega, by omega⟩
    case round =>
      clear hpw
      obtain ⟨k, S, v, rfl, hk, hpw, heq, hSl, hvl⟩ := hrel
      have HPW := Lib.hid hpw
      have hcell : ∀ {p : Addr} {v : Value}, w2.cell? p = some v → wr.cell? p = some v := fun {p v} hc => (hpw.below.cell (p := p) (block_lt hc)).trans hc
      obtain ⟨vo, hbo, hoo⟩ := hpw.out
      obtain ⟨Ao, co, rfl, iS⟩ := hoo.form
      have z0 := hbo.cell (k := 0) rfl
      have z1 : wr.cell? ⟨w2.heap.size + 1, 0, none⟩ = _ := hpw.num.cell (k := 0) rfl
      have z2 : wr.cell? ⟨w2.heap.size + 1 + 1, 0, none⟩ = _ := hpw.step.cell (k := 0) rfl
      have z3 : wr.cell? ⟨w2.heap.size + 1 + 1 + 1, 0, none⟩ = _ := hpw.made.cell (k := 0) rfl
      cases k with
      | zero =>
        have Hfin := Lib.hid (show planFrom L over r p (p.length - 1) ([], n) = (S, v) from heq.out.symm)
        have HP := Lib.hid iS
        clear heq hbo hoo iS hpw
        by_cases h20 : 20 < v
        · have d1 : decide ((v : Int) > 20) = true := decide_eq_true (by omega)
          go_wp2_with fail
          go_ret2
          refine ⟨Or.inl ⟨p, x, Hway.out, Hgood.out, Hleast.out, Or.inl ⟨?_, rfl⟩⟩, Hw2.out.trans (HPW.out.below.mono Hw2.out.size)⟩
          rw [Hr.out, Hn.out, Hfin.out]; exact Or.inl h20
        · have d1 : decide ((v : Int) > 20) = false := decide_eq_false (by omega)
          by_cases h60 : 60 < S.length
          · have d2 : decide ((S.length : Int) > 60) = true := decide_eq_true (by omega)
            go_wp2_with fail
            go_ret2
            refine ⟨Or.inl ⟨p, x, Hway.out, Hgood.out, Hleast.out, Or.inl ⟨?_, rfl⟩⟩, Hw2.out.trans (HPW.out.below.mono Hw2.out.size)⟩
            rw [Hr.out, Hn.out, Hfin.out]; exact Or.inr h60
          · have d2 : decide ((S.length : Int) > 60) = false := decide_eq_false (by omega)
            go_wp2_with fail
            go_ret2
            refine ⟨Or.inl ⟨p, x, Hway.out, Hgood.out, Hleast.out, Or.inr ⟨?_, Ao, co, ?_, ?_⟩⟩, Hw2.out.trans (HPW.out.below.mono Hw2.out.size)⟩
            · rw [Hr.out, Hn.out, Hfin.out]; exact fun h => h.elim h20 h60
            · rw [Hr.out, Hn.out, Hfin.out]; rfl
            · rw [Hr.out, Hn.out, Hfin.out]; exact HP.out
      | succ j =>
        have hj : j < p.length := by omega
        have hcj1 : wr.cell? ⟨b8, off8 + (j + 1), none⟩ = _ := hcell (Hc8.out (j + 1) hk)
        have hcj0 : wr.cell? ⟨b8, off8 + j, none⟩ = _ := hcell (Hc8.out j hj)
        have hlb := Hlt.out (j + 1) hk
        have hla := Hlt.out j hj
        by_cases hov : p.getD j 0 = over
        · obtain ⟨i, rfl⟩ : ∃ i, j = i + 1 := ⟨j - 1, by
            have : j ≠ 0 := fun e => Hne.out (by rw [← Hhead.out, ← hov, e])
            omega⟩
          have dne : (((p.getD (i + 1) 0 : Nat) : Int) != (over : Int)) = false := by rw [hov]; simp
          have hi : i < p.length := by omega
          have hlc := Hlt.out i hi
          have hci0 : w2.cell? ⟨b8, off8 + i, none⟩ = _ := Hc8.out i hi
          have Hci0 := Lib.hid hci0
          have HM := Lib.hid (PMade_any HPW.out (by omega) (by omega) over)
          have Heq := Lib.hid (show planFrom L over r p i (roundSt L over r (p.getD i 0) (p.getD (i + 2) 0) (S, v)) = planFrom L over r p (p.length - 1) ([], n) by rw [← heq.out, planFrom_round hov])
          have hSl2 := roundSt_len L over r (p.getD i 0) (p.getD (i + 2) 0) (S, v)
          have hvl2 := roundSt_ge L over r (p.getD i 0) (p.getD (i + 2) 0) (S, v)
          simp only at hSl2 hvl2
          have hci : wr.cell? ⟨b8, off8 + i, none⟩ = _ := hcell hci0
          have hcj2 : wr.cell? ⟨b8, off8 + (i + 1 + 1), none⟩ = some (.int .i64 (p.getD (i + 2) 0 : Nat)) := hcj1
          have hlb2 : p.getD (i + 2) 0 < n := hlb
          clear heq hov hbo hoo iS hpw hcj1 hlb hla hci0
          generalize p.getD i 0 = a at *
          generalize p.getD (i + 2) 0 = b at *
          generalize p.getD (i + 1) 0 = o2 at *
          go_wp2_with fail
          refine HM.out.mono ?_
          rintro e w5 ⟨rfl, hp5⟩
          have q0 := passSt_len L a over (v : Int) 3 (S ++ [⟨2, over, 0, 0, 0⟩], v + 1)
          have q0' := passSt_ge L a over (v : Int) 3 (S ++ [⟨2, over, 0, 0, 0⟩], v + 1)
          have q1 := passSt_len L b over (v : Int) 3 (passSt L a over (v : Int) 3 (S ++ [⟨2, over, 0, 0, 0⟩], v + 1))
          have q1' := passSt_ge L b over (v : Int) 3 (passSt L a over (v : Int) 3 (S ++ [⟨2, over, 0, 0, 0⟩], v + 1))
          simp only [List.length_append, List.length_singleton] at q0 q0'
          have HP1 := Lib.hid (PPass_any hp5 (Nat.le_refl _) Hbx.out HL2.out Hg.out Hn.out (by simp; omega) (by omega) hlc ho v 3)
          have HX := Lib.hid (show ((S ++ [⟨2, over, 0, 0, 0⟩]) ++ passL L a over v 3 (v + 1), passN L a over (v + 1)) = passSt L a over (v : Int) 3 (S ++ [⟨2, over, 0, 0, 0⟩], v + 1) from rfl)
          clear hp5 HM z0 z1 z2 z3
          go_wp2_with fail
          refine HP1.out.mono ?_
          rintro e w6 ⟨rfl, hp6⟩
          have hp6 : PlanW w2.heap.size w2 w6 (passSt L a over (v : Int) 3 (S ++ [⟨2, over, 0, 0, 0⟩], v + 1)).1 (passSt L a over (v : Int) 3 (S ++ [⟨2, over, 0, 0, 0⟩], v + 1)).2 := hp6
          have hrd : roundSt L over r a b (S, v) = (((passSt L b over v 3 (passSt L a over v 3 (S ++ [⟨2, over, 0, 0, 0⟩], v + 1))).1 ++ [⟨1, b, v, over, r⟩]) ++ [⟨0, a, v, over, r⟩], (passSt L b over v 3 (passSt L a over v 3 (S ++ [⟨2, over, 0, 0, 0⟩], v + 1))).2) := rfl
          have Hrd := Lib.hid hrd
          clear hrd HX HP1
          generalize passSt L a over (v : Int) 3 (S ++ [⟨2, over, 0, 0, 0⟩], v + 1) = X at *
          have HP2 := Lib.hid (PPass_any hp6 (Nat.le_refl _) Hbx.out HL2.out Hg.out Hn.out (by omega) (by omega) hlb2 ho v 3)
          clear hp6
          go_wp2_with fail
          refine HP2.out.mono ?_
          rintro e w7 ⟨rfl, hp7⟩
          have hp7 : PlanW w2.heap.size w2 w7 (passSt L b over (v : Int) 3 X).1 (passSt L b over (v : Int) 3 X).2 := hp7
          clear HP2
          generalize passSt L b over (v : Int) 3 X = Y at *
          have z2 : w7.cell? ⟨w2.heap.size + 1 + 1, 0, none⟩ = _ := hp7.step.cell (k := 0) rfl
          have HS1 := Lib.hid (PStep_any hp7 (by omega) ⟨1, b, v, over, r⟩)
          clear hp7
          go_wp2_with fail
          refine HS1.out.mono ?_
          rintro e w8 ⟨rfl, hp8⟩
          clear z2 HS1
          have z2 : w8.cell? ⟨w2.heap.size + 1 + 1, 0, none⟩ = _ := hp8.step.cell (k := 0) rfl
          have HS2 := Lib.hid (PStep_any hp8 (by rw [List.length_append]; simp; omega) ⟨0, a, v, over, r⟩)
          clear hp8
          go_wp2_with fail
          refine HS2.out.mono ?_
          rintro e w9 ⟨rfl, hp9⟩
          clear HS2 z2
          go_wp2_with fail
          rw [Hrd.out] at Heq hSl2 hvl2
          refine ⟨⟨i, _, _, ?za, ?zb, hp9, Heq, ?zc, ?ze⟩, ?zd⟩
          case za => go_num
          case zb => omega
          case zc => simp only at hSl2; omega
          case ze => simp only at hvl2; omega
          case zd => simp [intOf] <;> omega
        · have dne : (((p.getD j 0 : Nat) : Int) != (over : Int)) = true := bne_iff_ne.2 (fun e => hov (Int.ofNat.inj e))
          have HPP := Lib.hid (PPass_any HPW.out (Nat.le_refl _) Hbx.out HL2.out Hg.out Hn.out (by omega) (by omega) hla hlb over r)
          have Heq := Lib.hid (show planFrom L over r p j (S ++ passL L (p.getD j 0) (p.getD (j + 1) 0) over r v, passN L (p.getD j 0) (p.getD (j + 1) 0) v) = planFrom L over r p (p.length - 1) ([], n) by rw [← heq.out, planFrom_pass hov]; rfl)
          have hSl2 := passL_le L (p.getD j 0) (p.getD (j + 1) 0) over r v
          have hvl2 := passN_ge L (p.getD j 0) (p.getD (j + 1) 0) v
          clear heq hov hbo hoo iS hpw z0 z1 z3
          generalize p.getD j 0 = a at *
          generalize p.getD (j + 1) 0 = b at *
          go_wp2_with fail
          refine HPP.out.mono ?_
          rintro e w5 ⟨rfl, hp5⟩
          clear HPP
          go_wp2_with fail
          refine ⟨⟨j, _, _, ?ya, ?yb, hp5, Heq, ?yc, ?ye⟩, ?yd⟩
          case ya => go_num
          case yb => omega
          case yc => rw [List.length_append]; omega
          case ye => omega
          case yd => simp [intOf]
  · have hw2 := hb0.trans (hb2.mono hb0.size)
    go_wp2_with fail
    go_ret2
    exact ⟨Or.inr ⟨rfl, hno⟩, hw2⟩
set_option maxHeartbeats 4000000 in
theorem Plan_bad {w : World} {A : Option Addr} {c n : Nat} {L : List (List Int)} (hL : RowsIn anyB 1 w A L) (hn : L.length = n) (nm : n ≤ maxLen) {right who over : Int} (hb : I64 right ∧ I64 who ∧ I64 over) (hz : askCode L right who over ≠ 0) :
    Calls Tryd.prog 17 #[.slice A n c, .int .i64 right, .int .i64 who, .int .i64 over] w fun e w' => e = .returned (.tuple #[.slice none 0 0, .iface 59 (.int .i64 (askCode L right who over))]) ∧ Below w.heap.size w w' := by
  have hbx := BoxN.new w 22 #[.slice A n c]
  have hb0 := (Below.refl w.heap.size w).alloc (Nat.le_refl _) (.cells #[.slice A n c] 22)
  have HC := Lib.hid (Chain_bad (c := c) (hL.below hb0) hn nm hb hz)
  have y0 := hbx.cell (k := 0) rfl
  generalize askCode L right who over = code at *
  clear hL hn
  go_enter Tryd.func17, Tryd.ntmps17
  go_wp2_with fail
  refine HC.out.mono ?_
  rintro e w2 ⟨rfl, hb2⟩
  go_wp2_with fail
  go_ret2
  exact ⟨rfl, hb0.trans (hb2.mono hb0.size)⟩
end Go.Proofs.YtpfmllpodjcldaaDoor
