/-
  The plan along a way: that it can be done, and what comes of it. Plain laws.
-/
import Derived.Test.YtpfmllpodjcldaaDoorPlanLaw
namespace Go.Proofs.YtpfmllpodjcldaaDoor
set_option linter.unusedVariables false

def passSt (L : List (List Int)) (a b : Nat) (t r : Int) (st : List GStep × Nat) : List GStep × Nat := (st.1 ++ passL L a b t r st.2, passN L a b st.2)
/-- Round a vertex that is on the way itself. -/
def roundSt (L : List (List Int)) (over : Nat) (r : Int) (a b : Nat) (st : List GStep × Nat) : List GStep × Nat :=
  let s3 := passSt L b over st.2 3 (passSt L a over st.2 3 (st.1 ++ [⟨2, over, 0, 0, 0⟩], st.2 + 1))
  ((s3.1 ++ [⟨1, b, st.2, over, r⟩]) ++ [⟨0, a, st.2, over, r⟩], s3.2)
def planFrom (L : List (List Int)) (over : Nat) (r : Int) (way : List Nat) : Nat → List GStep × Nat → List GStep × Nat
  | 0, st => st
  | 1, st => if way.getD 0 0 ≠ over then passSt L (way.getD 0 0) (way.getD 1 0) over r st else st
  | k + 2, st => if way.getD (k + 1) 0 ≠ over then planFrom L over r way (k + 1) (passSt L (way.getD (k + 1) 0) (way.getD (k + 2) 0) over r st)
    else planFrom L over r way k (roundSt L over r (way.getD k 0) (way.getD (k + 2) 0) st)
theorem passSt_ge (L : List (List Int)) (a b : Nat) (t r : Int) (st : List GStep × Nat) : st.2 ≤ (passSt L a b t r st).2 ∧ (passSt L a b t r st).2 ≤ st.2 + 1 := passN_ge L a b st.2
theorem passSt_len (L : List (List Int)) (a b : Nat) (t r : Int) (st : List GStep × Nat) : (passSt L a b t r st).1.length ≤ st.1.length + 4 := by
  have := passL_le L a b t r st.2
  show (st.1 ++ _).length ≤ _
  rw [List.length_append]; omega
theorem roundSt_ge (L : List (List Int)) (over : Nat) (r : Int) (a b : Nat) (st : List GStep × Nat) : st.2 ≤ (roundSt L over r a b st).2 ∧ (roundSt L over r a b st).2 ≤ st.2 + 3 := by
  have h1 := passSt_ge L a over st.2 3 (st.1 ++ [⟨2, over, 0, 0, 0⟩], st.2 + 1)
  have h2 := passSt_ge L b over st.2 3 (passSt L a over st.2 3 (st.1 ++ [⟨2, over, 0, 0, 0⟩], st.2 + 1))
  show st.2 ≤ (passSt L b over st.2 3 _).2 ∧ (passSt L b over st.2 3 _).2 ≤ st.2 + 3
  simp only at h1
  omega
theorem roundSt_len (L : List (List Int)) (over : Nat) (r : Int) (a b : Nat) (st : List GStep × Nat) : (roundSt L over r a b st).1.length ≤ st.1.length + 11 := by
  have h1 := passSt_len L a over st.2 3 (st.1 ++ [⟨2, over, 0, 0, 0⟩], st.2 + 1)
  have h2 := passSt_len L b over st.2 3 (passSt L a over st.2 3 (st.1 ++ [⟨2, over, 0, 0, 0⟩], st.2 + 1))
  show (((passSt L b over st.2 3 _).1 ++ _) ++ _).length ≤ _
  rw [List.length_append, List.length_append]
  simp at h1 ⊢
  omega
theorem planFrom_ge (L : List (List Int)) (over : Nat) (r : Int) (way : List Nat) : ∀ (k : Nat) (st : List GStep × Nat), st.2 ≤ (planFrom L over r way k st).2
  | 0, st => Nat.le_refl _
  | 1, st => by
    rw [planFrom]
    split
    · exact (passSt_ge _ _ _ _ _ _).1
    · exact Nat.le_refl _
  | k + 2, st => by
    rw [planFrom]
    split
    · exact Nat.le_trans (passSt_ge _ _ _ _ _ _).1 (planFrom_ge L over r way (k + 1) _)
    · exact Nat.le_trans (roundSt_ge _ _ _ _ _ _).1 (planFrom_ge L over r way k _)

/-- How far a plan has come. -/
structure PInv (L : List (List Int)) (over r v : Nat) (st : List GStep × Nat) : Prop where
  ok : okS L st.1
  grew : Grew L (runS L st.1)
  len : (runS L st.1).length = st.2
  has : Sub r (gN (runS L st.1) v over)
section
variable {L : List (List Int)} {over r : Nat}
theorem PInv.pass {a b : Nat} {st : List GStep × Nat} (hL : GOk L) (h : PInv L over r b st) (ha : a < L.length) (hb : b < L.length) (ho : over < L.length) (hao : a ≠ over) (hab : a ≠ b) (hr : 1 ≤ r ∧ r ≤ 7) (he : gE L a b) (hroom : (passSt L a b over r st).2 ≤ 20) : PInv L over r a (passSt L a b over r st) := by
  have hl := h.len
  have hgl := h.grew.len
  have hroom' : passN L a b (runS L st.1).length ≤ 20 := by rw [hl]; exact hroom
  obtain ⟨h1, h2, h3, h4⟩ := pass_ok hL h.grew ha hb (by omega) hab hao hr he h.has hroom'
  rw [hl] at h1 h2 h3 h4
  exact ⟨okS_append _ _ _ h.ok h1, by show Grew L (runS L (st.1 ++ _)); rw [runS_append]; exact h.grew.trans h2, by show (runS L (st.1 ++ _)).length = _; rw [runS_append]; exact h3, by show Sub r (gN (runS L (st.1 ++ _)) a over); rw [runS_append]; exact h4⟩
set_option maxHeartbeats 1000000 in
theorem PInv.round {a b : Nat} {st : List GStep × Nat} (hL : GOk L) (h : PInv L over r b st) (ha : a < L.length) (hb : b < L.length) (ho : over < L.length) (hao : a ≠ over) (hbo : b ≠ over) (hr : 1 ≤ r ∧ r ≤ 7) (he1 : gE L a over) (he2 : gE L b over) (hroom : (roundSt L over r a b st).2 ≤ 20) : PInv L over r a (roundSt L over r a b st) := by
  obtain ⟨S, n⟩ := st
  have hl : (runS L S).length = n := h.len
  have hgl := h.grew.len
  have hok : okS L S := h.ok
  have hgr : Grew L (runS L S) := h.grew
  have hhas : Sub r (gN (runS L S) b over) := h.has
  have e3 : ((3 : Nat) : Int) = 3 := rfl
  generalize hG : runS L S = G at *
  have hp1 := (passSt_ge L a over n 3 (S ++ [⟨2, over, 0, 0, 0⟩], n + 1)).1
  have hp2 := (passSt_ge L b over n 3 (passSt L a over n 3 (S ++ [⟨2, over, 0, 0, 0⟩], n + 1))).1
  have hroom2 : (passSt L b over n 3 (passSt L a over n 3 (S ++ [⟨2, over, 0, 0, 0⟩], n + 1))).2 ≤ 20 := hroom
  simp only at hp1
  obtain ⟨c1, o1, n1, g1⟩ := new_ok hgr.ok (a := over) (by omega) (by omega)
  have w1 := grew_new o1 n1 g1
  have hown : Sub 3 (gN (stDo G ⟨2, over, 0, 0, 0⟩) over n) := by rw [g1, ← hl, newG_own _ (by omega)]; exact fun i h => h
  generalize hG1 : stDo G ⟨2, over, 0, 0, 0⟩ = G1 at *
  have hr1 : runS L (S ++ [⟨2, over, 0, 0, 0⟩]) = G1 := by rw [runS_append, hG, runS_one, hG1]
  have hk1 : okS L (S ++ [⟨2, over, 0, 0, 0⟩]) := okS_append _ _ _ hok (by rw [hG]; exact okS_one c1)
  have lw1 : Grew L G1 := hgr.trans w1
  have hrd : roundSt L over r a b (S, n) = (((passSt L b over n 3 (passSt L a over n 3 (S ++ [⟨2, over, 0, 0, 0⟩], n + 1))).1 ++ [⟨1, b, n, over, r⟩]) ++ [⟨0, a, n, over, r⟩], (passSt L b over n 3 (passSt L a over n 3 (S ++ [⟨2, over, 0, 0, 0⟩], n + 1))).2) := rfl
  generalize hX : passSt L a over n 3 (S ++ [⟨2, over, 0, 0, 0⟩], n + 1) = X at *
  have hX2 : X.2 = passN L a over (n + 1) := by rw [← hX]; rfl
  have hXge := (passN_ge L a over (n + 1)).1
  have p1 := pass_ok hL lw1 (a := a) (b := over) (t := n) (r := 3) ha ho (by omega) hao (by omega) (by decide) he1 hown (by rw [n1, hl, ← hX2]; omega)
  rw [n1, hl, e3] at p1
  obtain ⟨p1, p2, p3, p4⟩ := p1
  have hXr : runS L X.1 = runS G1 (passL L a over n 3 (n + 1)) := by rw [← hX]; show runS L ((S ++ [_]) ++ _) = _; rw [runS_append, hr1]
  have hXk : okS L X.1 := by rw [← hX]; exact okS_append _ _ _ hk1 (by rw [hr1]; exact p1)
  rw [← hXr] at p2 p3 p4
  rw [← hX2] at p3
  generalize hG2 : runS L X.1 = G2 at *
  have lw2 : Grew L G2 := lw1.trans p2
  have hown2 : Sub 3 (gN G2 over n) := hown.trans' (p2.sub over n (by omega) (by omega))
  have hY2 : (passSt L b over n 3 X).2 = passN L b over X.2 := rfl
  have q1 := pass_ok hL lw2 (a := b) (b := over) (t := n) (r := 3) hb ho (by omega) hbo (by omega) (by decide) he2 hown2 (by rw [p3, ← hY2]; exact hroom2)
  rw [p3, e3] at q1
  obtain ⟨q1, q2, q3, q4⟩ := q1
  have hYr : runS L (passSt L b over n 3 X).1 = runS G2 (passL L b over n 3 X.2) := by show runS L (X.1 ++ _) = _; rw [runS_append, hG2]
  have hYk : okS L (passSt L b over n 3 X).1 := okS_append _ _ _ hXk (by rw [hG2]; exact q1)
  rw [← hYr] at q2 q3 q4
  rw [← hY2] at q3
  rw [hrd]
  generalize passSt L b over n 3 X = Y at *
  generalize hG3 : runS L Y.1 = G3 at *
  have lw3 : Grew L G3 := lw2.trans q2
  have hl3 := lw3.len
  have hs3 : Sub r (gN G3 b over) := ((hhas.trans' (w1.sub b over (by omega) (by omega))).trans' (p2.sub b over (by omega) (by omega))).trans' (q2.sub b over (by omega) (by omega))
  obtain ⟨c4, o4, n4, g4⟩ := grant_ok lw3.ok (a := n) (b := b) (t := over) (r := r) (by omega) (by omega) (by omega) hr (by omega) (q4 1 (by decide)) hs3
  have w4 := grew_add o4 n4 g4
  generalize hG4 : stDo G3 ⟨1, b, n, over, r⟩ = G4 at *
  have ha4 : Sub 3 (gN G4 a n) := (p4.trans' (q2.sub a n (by omega) (by omega))).trans' (w4.sub a n (by omega) (by omega))
  obtain ⟨c5, o5, n5, g5⟩ := take_ok w4.ok (a := a) (b := n) (t := over) (r := r) (by omega) (by omega) (by omega) hr hao (ha4 0 (by decide)) (by rw [g4]; exact add2_has _ _ _ _)
  have w5 := grew_add o5 n5 g5
  have hr4 : runS L (Y.1 ++ [⟨1, b, n, over, r⟩]) = G4 := by rw [runS_append, hG3, runS_one, hG4]
  have hr5 : runS L ((Y.1 ++ [⟨1, b, n, over, r⟩]) ++ [⟨0, a, n, over, r⟩]) = stDo G4 ⟨0, a, n, over, r⟩ := by rw [runS_append, hr4, runS_one]
  refine ⟨okS_append _ _ _ (okS_append _ _ _ hYk (by rw [hG3]; exact okS_one c4)) (by rw [hr4]; exact okS_one c5), ?_, ?_, ?_⟩
  · show Grew L (runS L ((Y.1 ++ _) ++ _)); rw [hr5]; exact (lw3.trans w4).trans w5
  · show (runS L ((Y.1 ++ _) ++ _)).length = Y.2; rw [hr5, n5, n4]; exact q3
  · show Sub r (gN (runS L ((Y.1 ++ _) ++ _)) a over); rw [hr5, g5]; exact add2_has _ _ _ _

/-- Along a way of which the last one has the right the first one comes to it. -/
theorem planFrom_ok {way : List Nat} (hL : GOk L) (ho : over < L.length) (hr : 1 ≤ r ∧ r ≤ 7) (hlt : ∀ i, i < way.length → way.getD i 0 < L.length) (he : ∀ i, i + 1 < way.length → gE L (way.getD i 0) (way.getD (i + 1) 0)) (hnd : ∀ i j, i < way.length → j < way.length → way.getD i 0 = way.getD j 0 → i = j) (h0 : way.getD 0 0 ≠ over) :
    ∀ (k : Nat) (st : List GStep × Nat), k < way.length → PInv L over r (way.getD k 0) st → (planFrom L over r way k st).2 ≤ 20 → PInv L over r (way.getD 0 0) (planFrom L over r way k st)
  | 0, st, _, h, _ => h
  | 1, st, hk, h, hroom => by
    rw [planFrom, if_pos h0] at hroom ⊢
    exact h.pass hL (hlt 0 (by omega)) (hlt 1 hk) ho h0 (fun e => by have := hnd 0 1 (by omega) hk e; omega) hr (he 0 hk) hroom
  | k + 2, st, hk, h, hroom => by
    rw [planFrom] at hroom ⊢
    by_cases hc : way.getD (k + 1) 0 ≠ over
    · rw [if_pos hc] at hroom ⊢
      have h1 := planFrom_ge L over r way (k + 1) (passSt L (way.getD (k + 1) 0) (way.getD (k + 2) 0) over r st)
      exact planFrom_ok hL ho hr hlt he hnd h0 (k + 1) _ (by omega) (h.pass hL (hlt (k + 1) (by omega)) (hlt (k + 2) hk) ho hc (fun e => by have := hnd (k + 1) (k + 2) (by omega) hk e; omega) hr (he (k + 1) hk) (by omega)) hroom
    · rw [if_neg hc] at hroom ⊢
      have hc : way.getD (k + 1) 0 = over := Classical.not_not.1 hc
      have h1 := planFrom_ge L over r way k (roundSt L over r (way.getD k 0) (way.getD (k + 2) 0) st)
      have e1 := he k (by omega)
      have e2 := he (k + 1) hk
      rw [hc] at e1 e2
      exact planFrom_ok hL ho hr hlt he hnd h0 k _ (by omega) (h.round hL (hlt k (by omega)) (hlt (k + 2) hk) ho (fun e => by have := hnd k (k + 1) (by omega) (by omega) (by rw [hc]; exact e); omega) (fun e => by have := hnd (k + 2) (k + 1) hk (by omega) (by rw [hc]; exact e); omega) hr e1 e2.symm (by omega)) hroom
end
end Go.Proofs.YtpfmllpodjcldaaDoor
