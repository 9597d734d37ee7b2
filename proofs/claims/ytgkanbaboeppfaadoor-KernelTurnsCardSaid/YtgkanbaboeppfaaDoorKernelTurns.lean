/-
  The walk of KernelTurns.
-/
import Derived.Test.YtgkanbaboeppfaaDoorKernFact
import Derived.Test.YtgkanbaboeppfaaDoorSaveB
import Derived.Test.YtgkanbaboeppfaaDoorShownCap
import Derived.Deep.QuietTactic
import Derived.BigQuiet
namespace Go.Proofs.YtgkanbaboeppfaaDoor
open Go.RowKit
set_option maxRecDepth 100000
set_option linter.unusedVariables false

theorem eRowsI : EInfo Tryd.prog 34 24 1 24 := EInfo.of (z := .slice none 0 0) Tryd.underlying34 (by kernel_rfl) rfl (by decide)
theorem int_ne_rowsI : (3 : TypeId) ≠ 24 := by decide
/-- A row of one's own: what is known of it. -/
def OwnR (lo : Nat) (w : World) (A : Option Addr) (n : Nat) (l : List Int) : Prop := l.length = n ∧ OwnIn lo w A 3 l
theorem OwnIn.role {lo : Nat} {w w' : World} {A : Option Addr} {e : TypeId} {l : List Int} (h : OwnIn lo w A e l) (hb : ∀ b, lo ≤ b → b < w.heap.size → w'.heap[b]? = w.heap[b]?) : OwnIn lo w' A e l := fun hne => by
  obtain ⟨g, hA, hg, ho⟩ := h hne
  exact ⟨g, hA, hg, ho.block (hb g hg ho.lt)⟩
theorem ownsRow_role {base size n lo : Nat} {e : TypeId} {v : Value} {xs : List Value} {w w' : World} (h : w.ownsRow base e size v n xs) (hl : lo ≤ base) (hb : ∀ b, lo ≤ b → b < w.heap.size → w'.heap[b]? = w.heap[b]?) : w'.ownsRow base e size v n xs := by
  refine ⟨h.1, ?_⟩
  rcases h.2 with h0 | ⟨g, cap, cur, hv, hg, hc, r⟩
  · exact .inl h0
  · exact .inr ⟨g, cap, cur, hv, hg, (hb g (by omega) (Array.getElem?_eq_some_iff.1 hc).1).trans hc, r⟩
/-- One of the slices. -/
theorem SlVals.cell {R : World → Option Addr → Nat → List Int → Prop} {base : Nat} {w : World} {xs : List Value} {Ls : List (List Int)} {A : Option Addr} {n c : Nat} (h : SlVals R w xs Ls) (ho : w.ownsRow base 24 1 (.slice A n c) n xs) {i : Nat} (hi : i < Ls.length) :
    ∃ b off Ai ni ci, A = some ⟨b, off, none⟩ ∧ w.cell? ⟨b, off + i, none⟩ = some (.slice Ai ni ci) ∧ R w Ai ni (Ls.getD i []) := by
  have hx : xs ≠ [] := by rintro rfl; have := h.1; simp at this; omega
  obtain ⟨b, off, hA2, hc⟩ := CellsAt.own ho hx
  obtain ⟨Ai, ni, ci, h1, h2⟩ := h.2 i (Ls.getD i []) (by rw [List.getD_eq_getElem?_getD, List.getElem?_eq_getElem hi]; rfl)
  exact ⟨b, off, Ai, ni, ci, hA2, hc i _ h1, h2⟩
/-- How many turns a part had. -/
theorem turns_count {L : List (List Int)} {P : List Int} {q : Nat} {T : List Int} (hs : SysOk L P q T) (p i : Nat) : (turnsFrom T 0 (i + 1)).count p = (turnsFrom T 0 i).count p + if nI T (i % T.length) = (p : Int) then 1 else 0 := by
  rw [turnsFrom_succ, List.count_append, Nat.zero_add]
  congr 1
  have h0 := (hs.turn (i % T.length) (Nat.mod_lt _ (by have := hs.turns.1; omega))).1
  by_cases e : nI T (i % T.length) = (p : Int)
  · rw [if_pos e, e]; simp
  · rw [if_neg e]
    simp only [List.count_cons, List.count_nil, Nat.zero_add]
    rw [if_neg]
    simp; omega

/-- What all parts showed. -/
def shownL (s : KState) (j : Nat) : List (List Int) := (List.range j).map fun p => (s.parts p).shown
theorem shownL_more (s : KState) (j : Nat) : shownL s (j + 1) = shownL s j ++ [(s.parts j).shown] := by unfold shownL; rw [List.range_succ, List.map_append]; rfl
theorem shownL_length (s : KState) (j : Nat) : (shownL s j).length = j := by simp [shownL]
theorem shownL_getD (s : KState) {p j : Nat} (h : p < j) : (shownL s j).getD p [] = (s.parts p).shown := by simp [shownL, List.getD_eq_getElem?_getD, h]

def cntT (T : List Int) (p m : Nat) : Nat := (turnsFrom T 0 m).count p
theorem cntT_le (T : List Int) (p m : Nat) : cntT T p m ≤ m := by
  unfold cntT
  have := List.count_le_length (a := p) (l := turnsFrom T 0 m)
  simpa [turnsFrom] using this
theorem cntT_step {L : List (List Int)} {P : List Int} {q : Nat} {T : List Int} (hs : SysOk L P q T) (p i : Nat) : cntT T p (i + 1) = cntT T p i + if nI T (i % T.length) = (p : Int) then 1 else 0 := turns_count hs p i

set_option maxHeartbeats 16000000 in
theorem KernelTurns_in {L : List (List Int)} {P T : List Int} {q a b : Nat} {Ap Ao At : Option Addr} {cp co ct : Nat} {w : World} (hL : RowsIn anyB 3 w Ap L) (hP : IntsIn anyB w Ao P) (hl : P.length = q * 2) (hT : IntsIn anyB w At T) (nL : L.length ≤ maxLen) (nq : q ≤ maxLen) (nT : T.length ≤ maxLen)
    (ha : a ≤ 150) (hb : b ≤ 150) (hc : sysCode L P q T = 0) (hP10 : Pow10 w.heap.size w) :
    Calls Tryd.prog 3 #[.agg #[.slice Ap L.length cp, .slice Ao q co, .slice At T.length ct], .int .i64 a, .int .i64 b] w fun e w' => e = .returned (.bool true) ∧ Below w.heap.size w w' := by
  have hb0 := BoxN.new w 26 #[.slice Ap L.length cp, .slice Ao q co, .slice At T.length ct]
  have hbW := (Below.refl w.heap.size w).alloc (Nat.le_refl _) (.cells #[.slice Ap L.length cp, .slice Ao q co, .slice At T.length ct] 26)
  have hsW : (w.alloc (.cells #[.slice Ap L.length cp, .slice Ao q co, .slice At T.length ct] 26)).heap.size = w.heap.size + 1 := by simp
  have d1 : decide ((a : Int) < 0) = false := by simp
  have d2 : decide ((a : Int) > 150) = false := by simp; omega
  have d3 : decide ((b : Int) < 0) = false := by simp
  have d4 : decide ((b : Int) > 150) = false := by simp; omega
  have d2' : decide (150 < a) = false := by simp; omega
  have d4' : decide (150 < b) = false := by simp; omega
  have Hok := Lib.hid (sysOk hc)
  go_enter Tryd.func3, Tryd.ntmps3
  go_wp2_with fail
  generalize w.alloc (.cells #[.slice Ap L.length cp, .slice Ao q co, .slice At T.length ct] 26) = W0 at *
  refine (kernelFact_true W0).mono ?_
  rintro e w1 ⟨rfl, hb1⟩
  have hbx1 := hb0.all hb1
  have hbw1 := hbW.trans (hb1.mono hbW.size)
  have Hs1 := Lib.hid (show w.heap.size < w1.heap.size by have := hbx1.lt; omega)
  clear hb0 hb1 hsW hbW
  have x0 := hbx1.cell (k := 0) rfl
  have x1 := hbx1.cell (k := 1) rfl
  have x2 := hbx1.cell (k := 2) rfl
  have HN := Lib.hid (New_ok (cp := cp) (co := co) (ct := ct) (hL.below hbw1) (hP.below hbw1) hl (hT.below hbw1) rfl rfl nL nq nT hc)
  go_wp2_with fail
  refine HN.out.mono ?_
  rintro e w2 ⟨⟨p, rfl, gp, gh, K, hK⟩, hb2⟩
  have hbx2 := hbx1.all hb2
  have hbw2 := hbw1.trans (hb2.mono hbw1.size)
  have hs2 := hb2.size
  clear HN x0 x1 x2 hbx1 hb2
  have x0 := hbx2.cell (k := 0) rfl
  have x1 := hbx2.cell (k := 1) rfl
  have x2 := hbx2.cell (k := 2) rfl
  have HN := Lib.hid (New_ok (cp := cp) (co := co) (ct := ct) (hL.below hbw2) (hP.below hbw2) hl (hT.below hbw2) rfl rfl nL nq nT hc)
  go_wp2_with fail
  refine HN.out.mono ?_
  rintro e w3 ⟨⟨p2, rfl, gp2, gh2, K2, hK2⟩, hb3⟩
  have hbx3 := hbx2.all hb3
  have hbw3 := hbw2.trans (hb3.mono hbw2.size)
  have hs3 := hb3.size
  have hKw := hK.below hb3
  have HNew := Lib.hid hK.new
  have HLow := Lib.hid hK.low
  have HLow2 := Lib.hid hK2.low
  have HNew2 := Lib.hid hK2.new
  clear HN x0 x1 x2 hbx2 hb3 hK
  have x0 := hbx3.cell (k := 0) rfl
  have R1 := Lib.hid (Run_ok hKw (sysOk hc) kNew_inv (by omega) a (by omega) (by omega))
  go_wp2_with fail
  refine R1.out.mono ?_
  rintro e w4 ⟨rfl, r4, k4, t4⟩
  have hK24 := hK2.off t4 (fun b hb hh => HNew.out b (by
    rcases hh with hh | hh
    · rcases Nat.lt_or_ge b w2.heap.size with h1 | h1
      · exact absurd (HLow2.out b h1) hh
      · omega
    · omega))
  clear R1 hKw hK2 x0
  have R2 := Lib.hid (show Calls Tryd.prog 7 #[.pointer (some ⟨p2, 0, none⟩), .int .i64 ((a : Int) + (b : Int))] w4 fun e w' => e = .returned Value.nilIface ∧ RunPost (roleNew p2 gp2 gh2) w2.heap.size w3.heap.size w4 p2 K2 L P q T (kturns (sysOps L) (turnsFrom T 0 (a + b)) kNew) (0 + (a + b)) w' from Run_ok hK24 (sysOk hc) kNew_inv (by omega) (a + b) (by omega) (by omega))
  go_wp2_with fail
  refine R2.out.mono ?_
  rintro e w5 ⟨rfl, r5, k5, t5⟩
  have kk5 := k4.off t5 (fun b hb hh => by
    rcases Nat.lt_or_ge b w3.heap.size with h1 | h1
    · refine HLow2.out b ?_
      rcases hh with hh | hh
      · rw [t4.keep b h1] at hh
        rcases Nat.lt_or_ge b w2.heap.size with h2 | h2
        · exact h2
        · exact absurd (HNew.out b h2) hh
      · omega
    · exact HNew2.out b h1)
  have hB4 := t4.to_below (B := w.heap.size + 1) (fun b hb => HLow.out b (by have := Hs1.out; omega)) (by have := hbx3.lt; omega)
  have hB5 := t5.to_below (B := w.heap.size + 1) (fun b hb => HLow2.out b (by have := Hs1.out; omega)) (by have := hbx3.lt; have := t4.size; omega)
  have hbx5 := (hbx3.below hB4 (by omega)).below hB5 (by omega)
  have hbw5 := (hbw3.trans (hB4.mono (by omega))).trans (hB5.mono (by omega))
  have hI1 := kNew_inv.turns Hok.out (turnsFrom T 0 a)
  have hl1 : (turnsFrom T 0 a).length = a := by simp [turnsFrom]
  rw [hl1, Nat.zero_add] at hI1
  have Hdis := Lib.hid (show ∀ b, r5 b ≠ 0 ∨ (w2.heap.size ≤ b ∧ b < w3.heap.size) → r4 b = 0 from fun b hh => by
    rcases Nat.lt_or_ge b w4.heap.size with h1 | h1
    · have h3 : w2.heap.size ≤ b ∧ b < w3.heap.size := by
        rcases hh with hh | hh
        · rw [t5.keep b h1] at hh
          refine ⟨?_, ?_⟩
          · rcases Nat.lt_or_ge b w2.heap.size with h2 | h2
            · exact absurd (HLow2.out b h2) hh
            · exact h2
          · rcases Nat.lt_or_ge b w3.heap.size with h2 | h2
            · exact h2
            · exact absurd (HNew2.out b h2) hh
        · exact hh
      rw [t4.keep b h3.2]
      exact HNew.out b h3.1
    · exact k4.new b h1)
  have Hlow4 := Lib.hid (show ∀ b, b < w.heap.size + 1 → r4 b = 0 from fun b hb => by
    rw [t4.keep b (by have := hbx3.lt; omega)]
    exact HLow.out b (by have := Hs1.out; omega))
  have HK1 := Lib.hid kk5
  have HK2 := Lib.hid k5
  have HI1 := Lib.hid hI1
  have Hlt5 := Lib.hid (show w.heap.size < w5.heap.size by have := hbx5.lt; omega)
  have hL5 : L.length ≤ 5 := Hok.out.parts.2
  clear R2 hK24 t4 t5 hB4 hB5 k4 k5 kk5 hI1 hl1 hbx3 hbw3 hs2 hs3
  obtain ⟨s1, he1⟩ : ∃ s1, kturns (sysOps L) (turnsFrom T 0 a) kNew = s1 := ⟨_, rfl⟩
  rw [he1, Nat.zero_add] at HK1
  rw [he1] at HI1
  rw [Nat.zero_add] at HK2
  have He1 := Lib.hid he1
  clear he1
  have x0 := hbx5.cell (k := 0) rfl
  go_wp2_with fail
  go_loopw [12, 13] (fun v i wr => ∃ (j : Nat) (xs : List Value), j ≤ L.length ∧ i = .int .i64 j ∧ wr.ownsRow w5.heap.size 24 1 v j xs ∧ SlVals (OwnR w5.heap.size) wr xs (shownL s1 j) ∧ Below w5.heap.size w5 wr) (fun _ i _ => L.length - (intOf i).toNat)
  case atStart => exact ⟨0, [], Nat.zero_le _, rfl, World.ownsRow_nil _ _ _ _, by simpa [shownL] using SlVals.nil, Below.refl _ _⟩
  case round =>
    obtain ⟨j, xs, hj, rfl, hown, hvs, hbr⟩ := hrel
    have x0r := (hbx5.below hbr Hlt5.out).cell (k := 0) rfl
    clear x0
    by_cases hlt : j < L.length
    · have HS1 := Lib.hid ((Shown_any (HK1.out.below hbr) (i := j) hlt (by omega) (by have := (HI1.out.shown j).1; omega)))
      have Hms := Lib.hid (shownL_more s1 j)
      have hlsh := (HI1.out.shown j).1
      obtain ⟨l, hl'⟩ : ∃ l, (s1.parts j).shown = l := ⟨_, rfl⟩
      rw [hl'] at HS1 Hms hlsh
      clear hl'
      generalize hll : l.length = ll at HS1
      have Hll := Lib.hid hll
      clear hll
      go_wp2_with fail
      refine HS1.out.mono ?_
      rintro e wq ⟨⟨Aq, cq, rfl, oq⟩, hbq⟩
      have howq := ownsRow_below hown hbq (Nat.le_refl _)
      have hvq := hvs.keep (w' := wq) (fun A n l hr => ⟨hr.1, hr.2.below' hbq (Nat.le_refl _)⟩)
      have hsq := Lib.hid hbq.size
      have hsr := Lib.hid hbr.size
      clear x0r
      go_wp2_with (at_builtin; refine wpList_push_one eRowsI (by decide) rfl _ _ rfl rfl (ownsRow_below howq (w1 := _) (B := wq.heap.size) ((Below.refl _ _).alloc (Nat.le_refl _) _) (Nat.le_refl _)) wq.heap.size (.slice Aq ll cq) rfl rfl (cell_of_row _ _ 0 _ _ _ (heap_alloc_new _ _)) (by omega) (by have := hsq.out; have := hsr.out; simp; omega) ?_; intro B' cc w' hown' hgr hbl)
      have hb2 : Below w5.heap.size w5 w' := hbl w5 (((hbr.trans (hbq.mono hsr.out)).alloc (by have := hsq.out; have := hsr.out; omega) _))
      refine ⟨⟨j + 1, xs ++ [.slice Aq ll cq], ?ya, ?yb, hown', ?yc, hb2⟩, ?yd⟩
      case ya => omega
      case yb => go_num
      case yc =>
        rw [Hms.out]
        have hk : ∀ A n l, OwnR w5.heap.size wq A n l → OwnR w5.heap.size w' A n l := fun A n l hr => ⟨hr.1, (hr.2.below' ((Below.refl wq.heap.size wq).alloc (Nat.le_refl _) (.cells #[.slice Aq ll cq] 24)) (Nat.le_refl _)).grown (v := u12) hgr (ownsRow_below howq ((Below.refl wq.heap.size wq).alloc (Nat.le_refl _) (.cells #[.slice Aq ll cq] 24)) (Nat.le_refl _)) int_ne_rowsI⟩
        exact SlVals.push (hvq.keep hk) (hk _ _ _ ⟨Hll.out, oq.lower hsr.out⟩)
      case yd => simp [intOf]; omega
    have hjl : j = L.length := by omega
    subst hjl
    obtain ⟨A', c', rfl⟩ := ownsRow_form hown
    have hbx6 := hbx5.below hbr Hlt5.out
    have hbw6 := hbw5.trans (hbr.mono (Nat.le_of_lt Hlt5.out))
    have hK16 := HK1.out.below hbr
    have hK26 := HK2.out.below hbr
    have Hnew4 := Lib.hid (show ∀ b, w5.heap.size ≤ b → r4 b = 0 from HK1.out.new)
    have R3 := Lib.hid (Run_ok hK16 Hok.out HI1.out (by omega) b (by omega) (by omega))
    have hsr := Lib.hid hbr.size
    clear HK1 HK2 hK16 hbr
    go_wp2_with fail
    clear x0r
    refine R3.out.mono ?_
    rintro e w7 ⟨rfl, r7, k7, t7⟩
    have hK27 := hK26.off t7 (fun b _ hh => Hdis.out b hh)
    have hB7 := t7.to_below (B := w.heap.size + 1) (fun b hb => Hlow4.out b hb) (by have := hbx6.lt; omega)
    have hbx7 := hbx6.below hB7 (by omega)
    have hbw7 := hbw6.trans (hB7.mono (by omega))
    have hown7 := ownsRow_role hown (Nat.le_refl _) (fun b h1 h2 => t7.block b h2 (Hnew4.out b h1))
    have hvs7 := hvs.keep (w' := w7) (fun A n l hr => ⟨hr.1, hr.2.role (fun b h1 h2 => t7.block b h2 (Hnew4.out b h1))⟩)
    have hs57 := Lib.hid (show w5.heap.size ≤ w7.heap.size from Nat.le_trans hsr.out t7.size)
    clear R3 hK26 t7 hB7 hbx6 hown hvs
    have hI2 := HI1.out.turns Hok.out (turnsFrom T a b)
    have hlb : (turnsFrom T a b).length = b := by simp [turnsFrom]
    rw [hlb] at hI2
    have he2 : kturns (sysOps L) (turnsFrom T 0 (a + b)) kNew = kturns (sysOps L) (turnsFrom T a b) s1 := by rw [turnsFrom_add, kturns_append, He1.out, Nat.zero_add]
    have Hst := Lib.hid (fun x => kturns_shown (sysOps L) x (turnsFrom T a b) s1)
    have Hct := Lib.hid (fun x => kturns_shown (sysOps L) x (turnsFrom T 0 (a + b)) kNew)
    rw [he2] at hK27
    rw [he2] at Hct
    clear he2
    obtain ⟨s2, hs2⟩ : ∃ s2, kturns (sysOps L) (turnsFrom T a b) s1 = s2 := ⟨_, rfl⟩
    rw [hs2] at k7 hK27 Hst Hct hI2
    clear hs2 He1
    have hP7 := hP10.next hbw7 (Nat.le_refl _) (Nat.le_refl _)
    have HI2 := Lib.hid hI2
    have hq6 := Hok.out.few
    have S1 := Lib.hid (Save_any k7 hI2 (by omega) (by omega) hL5 hq6 (hP7.next (Below.refl _ _) hbw7.size hbw7.size))
    have S2 := Lib.hid (fun V (hV : Below w7.heap.size w7 V) => (Save_any (hK27.below hV) hI2 (by omega) (by omega) hL5 hq6 (hP7.next (hV.mono hbw7.size) (Nat.le_trans hbw7.size hV.size) hbw7.size)).mono fun e w' ⟨he, hb⟩ => (⟨he, hV.trans (hb.mono hV.size)⟩ : _ ∧ Below w7.heap.size w7 w'))
    have K1 := Lib.hid (fun V (hV : Below w7.heap.size w7 V) => show Calls Tryd.prog 10 #[.pointer (some ⟨p, 0, none⟩)] V fun e w' => e = .returned (.int .i64 ((a : Int) + (b : Int))) ∧ V = w' from Tick_any (k7.below hV))
    have HK7 := Lib.hid k7
    obtain ⟨str, hstr⟩ : ∃ str, saveH s2 (a + b) L.length q = str := ⟨_, rfl⟩
    rw [hstr] at S1
    simp only [hstr] at S2
    clear hI2 hstr k7 hK27
    go_wp2_with fail
    refine S1.out.mono ?_
    rintro e w8 ⟨rfl, hb8⟩
    clear S1
    go_wp2_with fail
    refine (S2.out _ hb8).mono ?_
    rintro e w9 ⟨rfl, hb9⟩
    clear S2
    go_wp2_with fail
    refine (K1.out _ hb9).mono ?_
    rintro e w' ⟨rfl, rfl⟩
    clear K1
    have hbx9 := hbx7.all hb9
    have hbw9 := hbw7.trans (hb9.mono hbw7.size)
    have hs79 := Lib.hid hb9.size
    have x0 := hbx9.cell (k := 0) rfl
    have hown9 := ownsRow_below hown7 hb9 (Nat.le_refl _)
    have hvs9 := hvs7.keep (w' := w9) (fun A n l hr => ⟨hr.1, hr.2.below' hb9 (Nat.le_refl _)⟩)
    have HK9 := Lib.hid (HK7.out.below hb9)
    have Hlt9 := Lib.hid (show w.heap.size < w9.heap.size by have := hbx9.lt; omega)
    clear HK7 hown7 hvs7 hb8 hb9 hbx7 hbw7 hP7
    obtain ⟨bw, ow, -, -, -, rfl, -⟩ := hvs9.cell hown9 (i := 0) (by rw [shownL_length]; have := Hok.out.parts; omega)
    go_wp2_with fail
    go_loopw [14] (fun i wr => ∃ j : Nat, j ≤ L.length ∧ i = .int .i64 j ∧ Below w9.heap.size w9 wr) (fun i _ => L.length - (intOf i).toNat)
    case atStart => exact ⟨0, Nat.zero_le _, rfl, Below.refl _ _⟩
    case round =>
      obtain ⟨j, hj, rfl, hbr⟩ := hrel
      have hbxr := hbx9.below hbr Hlt9.out
      have hbwr := hbw9.trans (hbr.mono (Nat.le_of_lt Hlt9.out))
      clear x0
      have x0 := hbxr.cell (k := 0) rfl
      by_cases hlt : j < L.length
      · have SH := Lib.hid (Shown_cap (HK9.out.below hbr) (i := j) hlt hL5 (by have := (HI2.out.shown j).1; omega))
        obtain ⟨m1, hm1, -⟩ := Hst.out j
        obtain ⟨m2, hm2, hc2⟩ := Hct.out j
        have hc2' : (s2.parts j).shown.length ≤ cntT T j (a + b) := by
          rw [hm2]
          simpa [kNew, cntT] using hc2
        obtain ⟨bw', ow', A1, n1, c1, hA1, cw, hn1, ho1⟩ := hvs9.cell hown9 (i := j) (by rw [shownL_length]; exact hlt)
        injection hA1 with hA1
        injection hA1 with hA1 hA2
        subst hA1
        subst hA2
        rw [shownL_getD s1 hlt] at hn1 ho1
        have hl2 := (HI2.out.shown j).1
        obtain ⟨l1, e1⟩ : ∃ l, (s1.parts j).shown = l := ⟨_, rfl⟩
        obtain ⟨l2, e2⟩ : ∃ l, (s2.parts j).shown = l := ⟨_, rfl⟩
        rw [e1] at hm1 hn1 ho1
        rw [e2] at hm1 hc2' SH hl2
        clear hm2 hc2 e1 e2
        generalize hn2 : l2.length = n2 at SH hc2' hl2
        have Hn2 := Lib.hid hn2
        have Hn1 := Lib.hid hn1
        have Hm1 := Lib.hid hm1
        have Hcw := Lib.hid cw
        have Ho1 := Lib.hid ho1
        clear hn1 hn2 hm1 cw ho1
        go_wp2_with fail
        refine SH.out.mono ?_
        rintro e wq ⟨⟨A2, c2, rfl, hc22, o2⟩, hbq⟩
        have hbxq := hbxr.all hbq
        have hbwq := hbwr.trans (hbq.mono hbwr.size)
        have hsq9 := Lib.hid (Nat.le_trans hbr.size hbq.size)
        have Hcwq := Lib.hid ((hbr.trans (hbq.mono hbr.size)).cell (p := ⟨bw, ow + j, none⟩) (block_lt Hcw.out) |>.trans Hcw.out)
        have Ho1q := Lib.hid (Ho1.out.below' (hbr.trans (hbq.mono hbr.size)) (Nat.le_refl _))
        have H9q := Lib.hid (hbr.trans (hbq.mono hbr.size))
        clear SH x0 hbxr Hcw Ho1 hbq hbr hbwr
        go_wp2_with fail
        go_loopw [16, 17] (fun c i wi => ∃ m : Nat, m ≤ a + b ∧ i = .int .i64 m ∧ c = .int .i64 (cntT T j m) ∧ Below wq.heap.size wq wi) (fun _ i _ => a + b - (intOf i).toNat)
        case atStart => exact ⟨0, Nat.zero_le _, rfl, rfl, Below.refl _ _⟩
        case round =>
          obtain ⟨m, hm, rfl, rfl, hbi⟩ := hrel
          have hbxi := hbxq.all hbi
          by_cases hltm : m < a + b
          · have ht12 := Hok.out.turns
            have hlen0 : T.length ≠ 0 := by omega
            have hm2 : m % T.length < T.length := Nat.mod_lt _ (by omega)
            have hrem : (m : Int).tmod T.length = ((m % T.length : Nat) : Int) := by rw [Int.tmod_eq_emod_of_nonneg (by omega)]; rfl
            have Hstep := Lib.hid (cntT_step Hok.out j m)
            have hcl := cntT_le T j m
            obtain ⟨bt, ot, hAt, ct0⟩ := turn_cell (hT.below (hbwq.trans (hbi.mono hbwq.size))) (i := m % T.length) hm2
            have x0 := hbxi.cell (k := 0) rfl
            have x2 := hbxi.cell (k := 2) rfl
            rw [hAt] at x2
            generalize nI T (m % T.length) = tv at *
            generalize m % T.length = r at *
            generalize hc0 : cntT T j m = cm at *
            have Hc0 := Lib.hid hc0
            clear hc0 hAt
            by_cases he : tv = (j : Int)
            · have de : (tv == (j : Int)) = true := by simpa using he
              have Hs1 := Lib.hid (show cntT T j (m + 1) = cm + 1 by rw [Hstep.out, if_pos he])
              clear he Hstep
              go_wp2_with fail
              go_quiet (fail)
              go_wp2_with fail
              refine ⟨⟨m + 1, ?ya, ?yb, ?yc, ?ye⟩, ?yd⟩
              case ya => omega
              case yb => go_num
              case yc => rw [Hs1.out]; go_num
              case ye => exact belowD hbi _
              case yd => simp [intOf]; omega
            · have de : (tv == (j : Int)) = false := by simpa using he
              have Hs1 := Lib.hid (show cntT T j (m + 1) = cm by rw [Hstep.out, if_neg he, Nat.add_zero])
              clear he Hstep
              go_wp2_with fail
              go_quiet (fail)
              go_wp2_with fail
              refine ⟨⟨m + 1, ?ya, ?yb, ?yc, ?ye⟩, ?yd⟩
              case ya => omega
              case yb => go_num
              case yc => rw [Hs1.out]
              case ye => exact belowD hbi _
              case yd => simp [intOf]; omega
          · have hmab : m = a + b := by omega
            subst hmab
            generalize cntT T j (a + b) = cm at *
            have g1 : decide ((n2 : Int) > (cm : Int)) = false := by simp; omega
            have hn12 : n1 ≤ n2 := by rw [← Hn1.out, ← Hn2.out, Hm1.out, List.length_append]; omega
            have g2 : decide ((n1 : Int) > (n2 : Int)) = false := by simp; omega
            have cw := (hbi.cell (p := ⟨bw, ow + j, none⟩) (block_lt Hcwq.out)).trans Hcwq.out
            have hcut := fun V => run_cut_to V A2 n2 c2 n1 hn12 hc22
            have i1 : IntsAt wr A1 l1 := (Ho1q.out.at_).below hbi
            have i2 : IntsAt wr A2 l1 := by
              have h2 := o2.at_.below hbi
              rw [Hm1.out] at h2
              intro hne
              obtain ⟨b', o', e', h3⟩ := h2 (by simp [hne])
              exact ⟨b', o', e', fun i x hi => h3 i x (by
                have hlt := (List.getElem?_eq_some_iff.1 hi).1
                rw [List.getElem?_append_left hlt]
                exact hi)⟩
            have CI := Lib.hid (fun V (hV : ∃ q, V = wr.drewN q) => show Calls Tryd.prog 11 #[.slice A1 n1 c1, .slice A2 n1 c2] V fun e w' => e = .returned (.bool true) ∧ ∃ n, w' = V.drewN n from by
              obtain ⟨qv, rfl⟩ := hV
              have h := Ints_any l1 l1 A1 A2 c1 c2 (wr.drewN qv) (i1.below (belowD (Below.refl _ _) _)) (i2.below (belowD (Below.refl _ _) _)) (by rw [Hn1.out]; omega)
              rw [Hn1.out] at h
              simpa using h)
            go_wp2_with fail
            go_quiet (exact Calls.quiet_of (CI.out _ ⟨_, rfl⟩))
            go_wp2_with fail
            refine ⟨⟨j + 1, ?xa, ?xb, ?xe⟩, ?xd⟩
            case xa => omega
            case xb => go_num
            case xe => exact belowD (H9q.out.trans (hbi.mono H9q.out.size)) _
            case xd => simp [intOf]; omega
      · obtain rfl : j = L.length := by omega
        go_wp2_with fail
        go_ret
        exact ⟨rfl, hbwr⟩
end Go.Proofs.YtgkanbaboeppfaaDoor
