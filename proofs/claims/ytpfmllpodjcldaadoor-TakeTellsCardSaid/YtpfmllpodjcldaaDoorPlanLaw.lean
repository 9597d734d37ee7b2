/-
  What is planned can be done: plain laws.
-/
import Derived.Test.YtpfmllpodjcldaaDoorTakePass
import Derived.Test.YtpfmllpodjcldaaDoorTakeS
namespace Go.Proofs.YtpfmllpodjcldaaDoor
set_option linter.unusedVariables false

/-- Steps done one after another. -/
def runS (G : List (List Int)) (S : List GStep) : List (List Int) := S.foldl stDo G
def okS : List (List Int) → List GStep → Prop
  | _, [] => True
  | G, s :: S => stCode G s = 0 ∧ okS (stDo G s) S
theorem runS_one (G : List (List Int)) (s : GStep) : runS G [s] = stDo G s := rfl
theorem okS_one {G : List (List Int)} {s : GStep} (h : stCode G s = 0) : okS G [s] := ⟨h, trivial⟩
theorem runS_append (G : List (List Int)) (S T : List GStep) : runS G (S ++ T) = runS (runS G S) T := by unfold runS; rw [List.foldl_append]
theorem okS_append : ∀ (S T : List GStep) (G : List (List Int)), okS G S → okS (runS G S) T → okS G (S ++ T)
  | [], T, G, _, h => h
  | s :: S, T, G, h, k => ⟨h.1, okS_append S T (stDo G s) h.2 k⟩

theorem and_of_sub {a b : Nat} (h : Sub a b) : a &&& b = a := Nat.eq_of_testBit_eq fun i => by
  rw [Nat.testBit_and]
  cases hi : a.testBit i with
  | false => rfl
  | true => rw [h i hi]; rfl
theorem bit_and : ∀ a, a < 8 → (a.testBit 0 = true → ¬ (a &&& 1 = 0)) ∧ (a.testBit 1 = true → ¬ (a &&& 2 = 0)) := by decide
section
variable {G : List (List Int)}
theorem take_ok (hG : GOk G) {a b t r : Nat} (ha : a < G.length) (hb : b < G.length) (ht : t < G.length) (hr : 1 ≤ r ∧ r ≤ 7) (hne : a ≠ t) (hbit : (gN G a b).testBit 0 = true) (hs : Sub r (gN G b t)) :
    stCode G ⟨0, a, b, t, r⟩ = 0 ∧ GOk (stDo G ⟨0, a, b, t, r⟩) ∧ (stDo G ⟨0, a, b, t, r⟩).length = G.length ∧ gN (stDo G ⟨0, a, b, t, r⟩) = add2 (gN G) a t r := by
  have hf := hG.few
  have hc : stCode G ⟨0, a, b, t, r⟩ = 0 := by
    unfold stCode
    rw [if_neg (by unfold inR; dsimp only; omega), if_neg (by dsimp only; decide), if_neg (by unfold inR; dsimp only; omega), if_neg]
    show ¬ (stTo ⟨0, a, b, t, r⟩ = ((t : Nat) : Int).toNat ∨ gN G ((a : Nat) : Int).toNat ((b : Nat) : Int).toNat &&& stNeed ⟨0, a, b, t, r⟩ = 0 ∨ ((r : Nat) : Int).toNat &&& gN G (stFrom ⟨0, a, b, t, r⟩) ((t : Nat) : Int).toNat ≠ ((r : Nat) : Int).toNat)
    simp only [Int.toNat_natCast, stTo, stFrom, stNeed]
    rw [if_neg (by decide), if_neg (by decide), if_neg (by decide)]
    rintro (h | h | h)
    · exact hne h
    · exact (bit_and _ (hG.lt ha hb)).1 hbit h
    · exact h (and_of_sub hs)
  have hd : stDo G ⟨0, a, b, t, r⟩ = setG G a t ((gN G a t ||| r : Nat) : Int) := by
    unfold stDo
    rw [if_neg (by dsimp only; decide)]
    simp only [Int.toNat_natCast, stTo]
    rw [if_neg (by decide)]
  have h2 := hG.add ha ht (r := r) (by omega) hne
  rw [hd]
  exact ⟨hc, h2.1, length_setG _ _ _ _, h2.2⟩
theorem grant_ok (hG : GOk G) {a b t r : Nat} (ha : a < G.length) (hb : b < G.length) (ht : t < G.length) (hr : 1 ≤ r ∧ r ≤ 7) (hne : a ≠ t) (hbit : (gN G b a).testBit 1 = true) (hs : Sub r (gN G b t)) :
    stCode G ⟨1, b, a, t, r⟩ = 0 ∧ GOk (stDo G ⟨1, b, a, t, r⟩) ∧ (stDo G ⟨1, b, a, t, r⟩).length = G.length ∧ gN (stDo G ⟨1, b, a, t, r⟩) = add2 (gN G) a t r := by
  have hf := hG.few
  have hc : stCode G ⟨1, b, a, t, r⟩ = 0 := by
    unfold stCode
    rw [if_neg (by unfold inR; dsimp only; omega), if_neg (by dsimp only; decide), if_neg (by unfold inR; dsimp only; omega), if_neg]
    show ¬ (stTo ⟨1, b, a, t, r⟩ = ((t : Nat) : Int).toNat ∨ gN G ((b : Nat) : Int).toNat ((a : Nat) : Int).toNat &&& stNeed ⟨1, b, a, t, r⟩ = 0 ∨ ((r : Nat) : Int).toNat &&& gN G (stFrom ⟨1, b, a, t, r⟩) ((t : Nat) : Int).toNat ≠ ((r : Nat) : Int).toNat)
    simp only [Int.toNat_natCast, stTo, stFrom, stNeed]
    rw [if_pos (by decide), if_pos (by decide), if_pos (by decide)]
    rintro (h | h | h)
    · exact hne h
    · exact (bit_and _ (hG.lt hb ha)).2 hbit h
    · exact h (and_of_sub hs)
  have hd : stDo G ⟨1, b, a, t, r⟩ = setG G a t ((gN G a t ||| r : Nat) : Int) := by
    unfold stDo
    rw [if_neg (by dsimp only; decide)]
    simp only [Int.toNat_natCast, stTo]
    rw [if_pos (by decide)]
  have h2 := hG.add ha ht (r := r) (by omega) hne
  rw [hd]
  exact ⟨hc, h2.1, length_setG _ _ _ _, h2.2⟩
theorem new_ok (hG : GOk G) {a : Nat} (ha : a < G.length) (hn : G.length < 20) :
    stCode G ⟨2, a, 0, 0, 0⟩ = 0 ∧ GOk (stDo G ⟨2, a, 0, 0, 0⟩) ∧ (stDo G ⟨2, a, 0, 0, 0⟩).length = G.length + 1 ∧ gN (stDo G ⟨2, a, 0, 0, 0⟩) = newG (gN G) G.length a := by
  have hc : stCode G ⟨2, a, 0, 0, 0⟩ = 0 := by
    unfold stCode
    rw [if_neg (by unfold inR; dsimp only; omega), if_pos rfl, if_neg (by omega)]
  have hd : stDo G ⟨2, a, 0, 0, 0⟩ = newL G a := by
    unfold stDo
    rw [if_pos rfl]
    simp only [Int.toNat_natCast]
  have h2 := hG.fresh ha hn
  rw [hd]
  exact ⟨hc, h2.1, length_newL _ _, h2.2⟩
end
theorem add2_has (g : Nat → Nat → Nat) (a t r : Nat) : Sub r (add2 g a t r a t) := fun i hi => by
  unfold add2
  rw [if_pos ⟨rfl, rfl⟩, Nat.testBit_or, hi, Bool.or_true]
theorem add2_sub (g : Nat → Nat → Nat) (a t r x y : Nat) : Sub (g x y) (add2 g a t r x y) := add_old x y
theorem Sub.trans' {a b c : Nat} (h : Sub a b) (k : Sub b c) : Sub a c := fun i hi => k i (h i hi)
theorem newG_sub {g : Nat → Nat → Nat} {n w x y : Nat} (hx : x < n) (hy : y < n) : Sub (g x y) (newG g n w x y) := by rw [new_old hx hy]; exact fun i h => h
theorem newG_own (g : Nat → Nat → Nat) {n w : Nat} (hw : w < n) : newG g n w w n = 3 := by unfold newG; rw [if_pos rfl, if_pos rfl]
theorem sub_two_three : Sub 2 3 := fun i hi => by
  match i with
  | 0 => simp at hi
  | 1 => rfl
  | i + 2 =>
    have : (2 : Nat).testBit (i + 2) = false := Nat.testBit_lt_two_pow (Nat.lt_of_lt_of_le (by decide : 2 < 2 ^ 2) (Nat.pow_le_pow_right (by decide) (by omega)))
    rw [this] at hi; cases hi

/-- What stands behind some steps: all rights that stood. -/
structure Grew (G G' : List (List Int)) : Prop where
  ok : GOk G'
  len : G.length ≤ G'.length
  sub : ∀ x y, x < G.length → y < G.length → Sub (gN G x y) (gN G' x y)
theorem Grew.refl {G : List (List Int)} (h : GOk G) : Grew G G := ⟨h, Nat.le_refl _, fun _ _ _ _ _ h => h⟩
theorem Grew.trans {G H K : List (List Int)} (h : Grew G H) (k : Grew H K) : Grew G K := ⟨k.ok, Nat.le_trans h.len k.len, fun x y hx hy => (h.sub x y hx hy).trans' (k.sub x y (Nat.lt_of_lt_of_le hx h.len) (Nat.lt_of_lt_of_le hy h.len))⟩
theorem grew_add {G : List (List Int)} {s : GStep} {a t r : Nat} (h1 : GOk (stDo G s)) (h2 : (stDo G s).length = G.length) (h3 : gN (stDo G s) = add2 (gN G) a t r) : Grew G (stDo G s) := ⟨h1, by omega, fun x y _ _ => by rw [h3]; exact add2_sub _ _ _ _ _ _⟩
theorem grew_new {G : List (List Int)} {s : GStep} {a : Nat} (h1 : GOk (stDo G s)) (h2 : (stDo G s).length = G.length + 1) (h3 : gN (stDo G s) = newG (gN G) G.length a) : Grew G (stDo G s) := ⟨h1, by omega, fun x y hx hy => by rw [h3]; exact newG_sub hx hy⟩

set_option maxHeartbeats 1000000 in
theorem pass_ok {L G : List (List Int)} (hL : GOk L) (hG : Grew L G) {a b t r : Nat} (ha : a < L.length) (hb : b < L.length) (ht : t < G.length) (hab : a ≠ b) (hat : a ≠ t) (hr : 1 ≤ r ∧ r ≤ 7) (he : gE L a b) (hs : Sub r (gN G b t)) (hroom : passN L a b G.length ≤ 20) :
    okS G (passL L a b t r G.length) ∧ Grew G (runS G (passL L a b t r G.length)) ∧ (runS G (passL L a b t r G.length)).length = passN L a b G.length ∧ Sub r (gN (runS G (passL L a b t r G.length)) a t) := by
  have hlen := hG.len
  have l1 := hL.lt ha hb
  have l2 := hL.lt hb ha
  by_cases h1 : gN L a b &&& 1 = 0
  · by_cases h2 : gN L b a &&& 2 = 0
    · have hp : passL L a b t r G.length = [⟨2, a, 0, 0, 0⟩, if gN L b a &&& 1 ≠ 0 then ⟨0, b, a, G.length, 2⟩ else ⟨1, a, b, G.length, 2⟩, ⟨1, b, G.length, t, r⟩, ⟨0, a, G.length, t, r⟩] := by
        unfold passL; rw [if_neg (fun e => e h1), if_neg (fun e => e h2)]
      have hpn : passN L a b G.length = G.length + 1 := by unfold passN; rw [if_neg (fun e => e h1), if_neg (fun e => e h2)]
      rw [hpn] at hroom
      obtain ⟨c1, o1, n1, g1⟩ := new_ok hG.ok (a := a) (by omega) (by omega)
      have w1 := grew_new o1 n1 g1
      generalize hG1 : stDo G ⟨2, a, 0, 0, 0⟩ = G1 at *
      have hq : ∃ s : GStep, (if gN L b a &&& 1 ≠ 0 then (⟨0, b, a, G.length, 2⟩ : GStep) else ⟨1, a, b, G.length, 2⟩) = s ∧ stCode G1 s = 0 ∧ GOk (stDo G1 s) ∧ (stDo G1 s).length = G1.length ∧ gN (stDo G1 s) = add2 (gN G1) b G.length 2 := by
        have haw : Sub 2 (gN G1 a G.length) := by rw [g1, newG_own _ (by omega)]; exact sub_two_three
        by_cases h3 : gN L b a &&& 1 = 0
        · refine ⟨_, if_neg (fun e => e h3), ?_⟩
          refine grant_ok o1 (a := b) (b := a) (t := G.length) (r := 2) (by omega) (by omega) (by omega) (by omega) (by omega) ?_ haw
          have h4 : (gN L a b).testBit 1 = true := by
            rcases he.2.2 with h | h
            · rcases h with h | h
              · exact absurd h1 ((bit_and _ l1).1 h)
              · exact h
            · rcases h with h | h
              · exact absurd h3 ((bit_and _ l2).1 h)
              · exact absurd h2 ((bit_and _ l2).2 h)
          exact w1.sub a b (by omega) (by omega) 1 (hG.sub a b ha hb 1 h4)
        · refine ⟨_, if_pos h3, ?_⟩
          refine take_ok o1 (a := b) (b := a) (t := G.length) (r := 2) (by omega) (by omega) (by omega) (by omega) (by omega) ?_ haw
          exact w1.sub b a (by omega) (by omega) 0 (hG.sub b a hb ha 0 ((and_two _ l2).1 h3))
      obtain ⟨s, hse, c2, o2, n2, g2⟩ := hq
      have w2 := grew_add o2 n2 g2
      rw [hse] at hp
      generalize hG2 : stDo G1 s = G2 at *
      have hb2 : Sub 2 (gN G2 b G.length) := by rw [g2]; exact add2_has _ _ _ _
      obtain ⟨c3, o3, n3, g3⟩ := grant_ok o2 (a := G.length) (b := b) (t := t) (r := r) (by omega) (by omega) (by omega) hr (by omega) (hb2 1 (by decide)) ((hs.trans' (w1.sub b t (by omega) ht)).trans' (w2.sub b t (by omega) (by omega)))
      have w3 := grew_add o3 n3 g3
      generalize hG3 : stDo G2 ⟨1, b, G.length, t, r⟩ = G3 at *
      have ha3 : (gN G3 a G.length).testBit 0 = true := by
        have : Sub 3 (gN G3 a G.length) := by
          have h5 : gN G1 a G.length = 3 := by rw [g1]; exact newG_own _ (by omega)
          rw [← h5]
          exact (w2.sub a G.length (by omega) (by omega)).trans' (w3.sub a G.length (by omega) (by omega))
        exact this 0 (by decide)
      obtain ⟨c4, o4, n4, g4⟩ := take_ok o3 (a := a) (b := G.length) (t := t) (r := r) (by omega) (by omega) (by omega) hr hat ha3 (by rw [g3]; exact add2_has _ _ _ _)
      have w4 := grew_add o4 n4 g4
      have hrun : runS G (passL L a b t r G.length) = stDo G3 ⟨0, a, G.length, t, r⟩ := by
        rw [hp]; unfold runS; simp only [List.foldl_cons, List.foldl_nil]; rw [hG1, hG2, hG3]
      refine ⟨?_, ?_, ?_, ?_⟩
      · rw [hp]
        refine ⟨c1, ?_⟩
        rw [hG1]
        refine ⟨c2, ?_⟩
        rw [hG2]
        refine ⟨c3, ?_⟩
        rw [hG3]
        exact ⟨c4, trivial⟩
      · rw [hrun]; exact ((w1.trans w2).trans w3).trans w4
      · rw [hrun, hpn]; omega
      · rw [hrun, g4]; exact add2_has _ _ _ _
    · have hp : passL L a b t r G.length = [⟨1, b, a, t, r⟩] := by unfold passL; rw [if_neg (fun e => e h1), if_pos h2]
      have hpn : passN L a b G.length = G.length := by unfold passN; rw [if_neg (fun e => e h1), if_pos h2]
      obtain ⟨c1, o1, n1, g1⟩ := grant_ok hG.ok (a := a) (b := b) (t := t) (r := r) (by omega) (by omega) ht hr hat (hG.sub b a hb ha 1 ((and_two _ l2).2 h2)) hs
      rw [hp, hpn, runS_one]
      refine ⟨okS_one c1, grew_add o1 n1 g1, n1, ?_⟩
      rw [g1]; exact add2_has _ _ _ _
  · have hp : passL L a b t r G.length = [⟨0, a, b, t, r⟩] := by unfold passL; rw [if_pos h1]
    have hpn : passN L a b G.length = G.length := by unfold passN; rw [if_pos h1]
    obtain ⟨c1, o1, n1, g1⟩ := take_ok hG.ok (a := a) (b := b) (t := t) (r := r) (by omega) (by omega) ht hr hat (hG.sub a b ha hb 0 ((and_two _ l1).1 h1)) hs
    rw [hp, hpn, runS_one]
    refine ⟨okS_one c1, grew_add o1 n1 g1, n1, ?_⟩
    rw [g1]; exact add2_has _ _ _ _
theorem passN_ge (L : List (List Int)) (a b w : Nat) : w ≤ passN L a b w ∧ passN L a b w ≤ w + 1 := by
  unfold passN
  split
  · omega
  · split <;> omega
theorem passL_le (L : List (List Int)) (a b : Nat) (t r : Int) (w : Nat) : (passL L a b t r w).length ≤ 4 := by
  unfold passL
  split
  · simp
  · split <;> simp
end Go.Proofs.YtpfmllpodjcldaaDoor
