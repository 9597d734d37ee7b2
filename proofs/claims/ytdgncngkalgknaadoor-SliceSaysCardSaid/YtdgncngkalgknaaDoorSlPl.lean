/-
  What matters of a little program for some variables: the set ahead, and whether anything does; loops by the least set that will do. Plain laws; no program of Go in sight.
  What is left of a little program when what does not matter is cut off; and that it does the same, with no more fuel. Plain laws; no program of Go in sight.
  Slicing: cut again it stays; what is needed flows in; the least set as what all sets that will do have in common. Plain laws; no program of Go in sight.
  How many nodes a tree has, and what is left of it when what does not matter is cut off. Plain laws.
  Trees with all fields of their nodes, those that nothing asks for, too; how they are laid, node behind its parts; what is left when what does not matter is cut off. Plain laws.
-/
import Derived.Test.YtdgncngkalgknaaDoorPgTree
import Derived.Test.YtdgncngkalgknaaDoorClose
import Derived.Test.YtdgncngkalgknaaDoorDiff
import Derived.Test.YtdgncngkalgknaaDoorTxN
import Derived.Test.YtdgncngkalgknaaDoorOneT
namespace Go.Proofs.YtdgncngkalgknaaDoor
set_option linter.unusedVariables false

/-- Again and again, till nothing changes. -/
def rise (f : Nat → Nat) : Nat → Nat → Nat
  | 0, u => u
  | k + 1, u => if f u = u then u else rise f k (f u)
/-- What matters ahead, and whether anything does. -/
def St.need : St → Nat → Nat × Bool
  | skip, u => (u, false)
  | set x e, u => if u.testBit x then (diff u (2 ^ x) ||| e.names, true) else (u, false)
  | both a b, u => ((a.need (b.need u).1).1, (a.need (b.need u).1).2 || (b.need u).2)
  | ite e a b, u => if (a.need u).2 || (b.need u).2 then ((a.need u).1 ||| (b.need u).1 ||| e.names, true) else (u, false)
  | loop e a, u => if (a.need u).2 then (rise (fun s => s ||| (a.need s).1 ||| e.names) 64 u, true) else (u, false)

theorem Sub.le {a b : Nat} (h : Sub a b) : a ≤ b := by
  have : a = a &&& b := Nat.eq_of_testBit_eq fun j => by
    rw [Nat.testBit_and]
    cases ha : a.testBit j with
    | false => rfl
    | true => rw [h j ha]; rfl
  rw [this]; exact Nat.and_le_right
theorem Sub.eq {a b : Nat} (h : Sub a b) (k : Sub b a) : a = b := Nat.le_antisymm h.le k.le
theorem names_lt64 {e : Ex} (h : e.ok) : e.names < 2 ^ 6 := by
  induction e with
  | num n => simp [Ex.names]
  | var n => exact Nat.pow_lt_pow_right (by decide) h
  | op k a b iha ihb => exact Nat.or_lt_two_pow (iha h.2.1) (ihb h.2.2)

section
variable {f : Nat → Nat}
/-- Where a rising ends nothing changes. -/
theorem rise_fix (hs : ∀ u, Sub u (f u)) (hl : ∀ u, u < 64 → f u < 64) : ∀ (k u : Nat), u < 64 → 64 ≤ u + k → f (rise f k u) = rise f k u ∧ rise f k u < 64 ∧ Sub u (rise f k u)
  | 0, u, hu, hk => by omega
  | k + 1, u, hu, hk => by
    rw [rise]
    by_cases h : f u = u
    · rw [if_pos h]; exact ⟨h, hu, Sub.refl _⟩
    · rw [if_neg h]
      have h1 := (hs u).le
      have h2 : u ≠ f u := fun e => h e.symm
      obtain ⟨g1, g2, g3⟩ := rise_fix hs hl k (f u) (hl u hu) (by omega)
      exact ⟨g1, g2, (hs u).trans g3⟩
/-- And what it ends at is below all that stay. -/
theorem rise_least (hm : ∀ u v, Sub u v → Sub (f u) (f v)) {t : Nat} (ht : Sub (f t) t) : ∀ (k u : Nat), Sub u t → Sub (rise f k u) t
  | 0, u, h => h
  | k + 1, u, h => by
    rw [rise]
    split
    · exact h
    · exact rise_least hm ht k (f u) ((hm u t h).trans ht)
end

theorem need_none {s : St} : ∀ {u : Nat}, (s.need u).2 = false → (s.need u).1 = u := by
  induction s with
  | skip => intro u _; rfl
  | set x e =>
    intro u h
    simp only [St.need] at h ⊢
    split
    · rename_i hx; rw [if_pos hx] at h; cases h
    · rfl
  | both a b iha ihb =>
    intro u h
    simp only [St.need, Bool.or_eq_false_iff] at h ⊢
    rw [ihb h.2] at h ⊢
    exact iha h.1
  | ite e a b iha ihb =>
    intro u h
    simp only [St.need] at h ⊢
    split
    · rename_i hx; rw [if_pos hx] at h; cases h
    · rfl
  | loop e a iha =>
    intro u h
    simp only [St.need] at h ⊢
    split
    · rename_i hx; rw [if_pos hx] at h; cases h
    · rfl
/-- One round of a loop, as sets. -/
def St.once (e : Ex) (a : St) (s : Nat) : Nat := s ||| (a.need s).1 ||| e.names
theorem once_sub (e : Ex) (a : St) (u : Nat) : Sub u (St.once e a u) := fun j hj => by unfold St.once; rw [tb_or, tb_or, hj]; rfl
theorem need_loop (e : Ex) (a : St) (u : Nat) : (St.loop e a).need u = if (a.need u).2 then (rise (St.once e a) 64 u, true) else (u, false) := rfl
theorem need_lt {s : St} (hs : s.ok) : ∀ {u : Nat}, u < 64 → (s.need u).1 < 64 := by
  induction s with
  | skip => intro u hu; exact hu
  | set x e =>
    intro u hu
    simp only [St.need]
    split
    · exact Nat.or_lt_two_pow (n := 6) (diff_lt (n := 6) hu) (names_lt64 hs.2)
    · exact hu
  | both a b iha ihb => intro u hu; exact iha hs.1 (ihb hs.2 hu)
  | ite e a b iha ihb =>
    intro u hu
    simp only [St.need]
    split
    · exact Nat.or_lt_two_pow (n := 6) (Nat.or_lt_two_pow (n := 6) (iha hs.2.1 hu) (ihb hs.2.2 hu)) (names_lt64 hs.1)
    · exact hu
  | loop e a iha =>
    intro u hu
    rw [need_loop]
    split
    · exact (rise_fix (once_sub e a) (fun s h => Nat.or_lt_two_pow (n := 6) (Nat.or_lt_two_pow (n := 6) h (iha hs.2 h)) (names_lt64 hs.1)) 64 u hu (by omega)).2.1
    · exact hu
theorem once_lt {e : Ex} {a : St} (he : e.ok) (ha : a.ok) {u : Nat} (hu : u < 64) : St.once e a u < 64 := Nat.or_lt_two_pow (n := 6) (Nat.or_lt_two_pow (n := 6) hu (need_lt ha hu)) (names_lt64 he)
theorem Sub.or2 {a b c d : Nat} (h : Sub a c) (k : Sub b d) : Sub (a ||| b) (c ||| d) := Sub.or (h.trans (Sub.left _ _)) (k.trans (Sub.right _ _))
/-- More behind needs more ahead. -/
theorem need_mono {s : St} (hs : s.ok) : ∀ {u v : Nat}, v < 64 → Sub u v → Sub (s.need u).1 (s.need v).1 ∧ ((s.need u).2 = true → (s.need v).2 = true) := by
  induction s with
  | skip => intro u v _ h; exact ⟨h, id⟩
  | set x e =>
    intro u v hv h
    simp only [St.need]
    by_cases hu : u.testBit x = true
    · rw [if_pos hu, if_pos (h x hu)]
      refine ⟨Sub.or2 (fun j hj => ?_) (Sub.refl _), fun _ => rfl⟩
      rw [diff_bit, Bool.and_eq_true] at hj ⊢
      exact ⟨h j hj.1, hj.2⟩
    · rw [if_neg hu]
      refine ⟨?_, fun e => by cases e⟩
      split
      · intro j hj
        rw [tb_or, diff_bit, tb_pow]
        have : x ≠ j := fun e => hu (e ▸ hj)
        simp [h j hj, this]
      · exact h
  | both a b iha ihb =>
    intro u v hv h
    have hb := ihb hs.2 hv h
    have ha := iha hs.1 (need_lt hs.2 hv) hb.1
    refine ⟨ha.1, fun e => ?_⟩
    simp only [St.need, Bool.or_eq_true] at e ⊢
    exact e.elim (fun e => .inl (ha.2 e)) (fun e => .inr (hb.2 e))
  | ite e a b iha ihb =>
    intro u v hv h
    have ha := iha hs.2.1 hv h
    have hb := ihb hs.2.2 hv h
    simp only [St.need]
    by_cases hu : ((a.need u).2 || (b.need u).2) = true
    · have hv' : ((a.need v).2 || (b.need v).2) = true := by
        rw [Bool.or_eq_true] at hu ⊢
        exact hu.elim (fun e => .inl (ha.2 e)) (fun e => .inr (hb.2 e))
      rw [if_pos hu, if_pos hv']
      exact ⟨Sub.or2 (Sub.or2 ha.1 hb.1) (Sub.refl _), fun _ => rfl⟩
    · rw [if_neg hu]
      refine ⟨?_, fun e => by cases e⟩
      rw [Bool.not_eq_true, Bool.or_eq_false_iff] at hu
      split
      · have := ha.1
        rw [need_none hu.1] at this
        exact (this.trans (Sub.left _ _)).trans (Sub.left _ _)
      · exact h
  | loop e a iha =>
    intro u v hv h
    rw [need_loop, need_loop]
    obtain ⟨g1, g2, g3⟩ := rise_fix (once_sub e a) (fun s h => once_lt hs.1 hs.2 h) 64 v hv (by omega)
    by_cases hu : (a.need u).2 = true
    · rw [if_pos hu, if_pos ((iha hs.2 hv h).2 hu)]
      refine ⟨?_, fun _ => rfl⟩
      generalize rise (St.once e a) 64 v = r at *
      -- all that come up stay below r
      have : ∀ k u, Sub u r → Sub (rise (St.once e a) k u) r := fun k => by
        induction k with
        | zero => intro u h; exact h
        | succ k ih =>
          intro u h
          rw [rise]
          split
          · exact h
          · refine ih _ ?_
            rw [← g1]
            exact Sub.or2 (Sub.or2 h (iha hs.2 g2 h).1) (Sub.refl _)
      exact this 64 u (h.trans g3)
    · rw [if_neg hu]
      refine ⟨?_, fun e => by cases e⟩
      split
      · exact h.trans g3
      · exact h
/-- Around a loop: the least that holds what is behind, the test's names, and what it needs itself. -/
theorem loop_fix {e : Ex} {a : St} (he : e.ok) (ha : a.ok) {u : Nat} (hu : u < 64) : let r := rise (St.once e a) 64 u
    r < 64 ∧ Sub u r ∧ Sub e.names r ∧ Sub (a.need r).1 r ∧ ∀ t, t < 64 → Sub u t → Sub e.names t → Sub (a.need t).1 t → Sub r t := by
  intro r
  obtain ⟨g1, g2, g3⟩ := rise_fix (once_sub e a) (fun s h => once_lt he ha h) 64 u hu (by omega)
  refine ⟨g2, g3, fun j hj => ?_, fun j hj => ?_, fun t ht h1 h2 h3 => ?_⟩
  · have h1 : (St.once e a (rise (St.once e a) 64 u)).testBit j = true := by
      rw [St.once, tb_or, hj, Bool.or_true]
    rwa [g1] at h1
  · have h0 : ((a.need (rise (St.once e a) 64 u)).1).testBit j = true := hj
    have h1 : (St.once e a (rise (St.once e a) 64 u)).testBit j = true := by
      rw [St.once, tb_or, tb_or, h0, Bool.or_true, Bool.true_or]
    rwa [g1] at h1
  · have : ∀ k u, Sub u t → Sub (rise (St.once e a) k u) t := fun k => by
      induction k with
      | zero => intro u h; exact h
      | succ k ih =>
        intro u h
        rw [rise]
        split
        · exact h
        · exact ih _ (Sub.or (Sub.or h ((need_mono ha ht h).1.trans h3)) h2)
    exact this 64 u h1
end Go.Proofs.YtdgncngkalgknaaDoor

namespace Go.Proofs.YtdgncngkalgknaaDoor
set_option linter.unusedVariables false

def pair2 : Option St → Option St → Option St
  | some x, some y => some (.both x y)
  | some x, none => some x
  | none, y => y
/-- What is left. -/
def St.cut : St → Nat → Option St
  | skip, _ => none
  | set x e, u => if u.testBit x then some (set x e) else none
  | both a b, u => pair2 (a.cut (b.need u).1) (b.cut u)
  | ite e a b, u => if (a.need u).2 || (b.need u).2 then some (ite e ((a.cut u).getD skip) ((b.cut u).getD skip)) else none
  | loop e a, u => if (a.need u).2 then some (loop e ((a.cut (rise (St.once e a) 64 u)).getD skip)) else none
theorem cut_isSome {s : St} : ∀ {u : Nat}, (s.cut u).isSome = (s.need u).2 := by
  induction s with
  | skip => intro u; rfl
  | set x e => intro u; simp only [St.cut, St.need]; split <;> rfl
  | both a b iha ihb =>
    intro u
    simp only [St.cut, St.need]
    rw [← iha, ← ihb]
    cases a.cut (b.need u).1 <;> cases b.cut u <;> rfl
  | ite e a b iha ihb => intro u; simp only [St.cut, St.need]; split <;> rfl
  | loop e a iha => intro u; simp only [St.cut, need_loop]; split <;> rfl
theorem cut_none {s : St} {u : Nat} (h : (s.need u).2 = false) : s.cut u = none := by
  have := cut_isSome (s := s) (u := u)
  rw [h] at this
  cases hc : s.cut u with
  | none => rfl
  | some x => rw [hc] at this; cases this
/-- Where it matters. -/
def Bits (u : Nat) (j : Nat) : Prop := u.testBit j = true
theorem Same.sub {u t : Nat} {v w : List Nat} (h : Same (Bits t) v w) (hs : Sub u t) : Same (Bits u) v w := ⟨h.1, fun i hi => h.2 i (hs i hi)⟩
theorem same_set {x u : Nat} {e : Ex} {v w : List Nat} (h : Same (Bits (diff u (2 ^ x) ||| e.names)) v w) : Same (Bits u) (v.set x (e.val v)) (w.set x (e.val w)) := by
  refine ⟨by simp [h.1], fun i hi => ?_⟩
  rw [getD_set, getD_set, h.1]
  have hv : e.val v = e.val w := Ex.val_same h (fun j hj => by show Nat.testBit _ _ = true; rw [tb_or, hj, Bool.or_true])
  by_cases hx : i = x ∧ x < w.length
  · rw [if_pos hx, if_pos hx, hv]
  · rw [if_neg hx, if_neg hx]
    by_cases hi2 : i = x
    · have hl : ¬ x < w.length := fun e => hx ⟨hi2, e⟩
      subst hi2
      rw [List.getD_eq_getElem?_getD, List.getD_eq_getElem?_getD, List.getElem?_eq_none (by rw [h.1]; omega), List.getElem?_eq_none (by omega)]
    · refine h.2 i ?_
      show Nat.testBit _ _ = true
      rw [tb_or, diff_bit, tb_pow]
      have : ¬ x = i := fun e => hi2 e.symm
      have hi' : u.testBit i = true := hi
      simp [hi', this]
/-- What is left does the same to what matters, with no more fuel. -/
def Does (s t : St) (a u : Nat) : Prop := ∀ v n v' n', s.run v n = some (v', n') → ∀ w m, Same (Bits a) v w → n ≤ m → ∃ w' m', t.run w m = some (w', m') ∧ Same (Bits u) v' w' ∧ n' ≤ m'
theorem does_both {a b x y : St} {p q r : Nat} (h : Does a x p q) (k : Does b y q r) : Does (.both a b) (.both x y) p r := by
  intro v n v' n' hr w m hs hn
  rw [St.run] at hr
  split at hr
  · cases hr
  · rename_i v1 n1 h1
    obtain ⟨w1, m1, g1, g2, g3⟩ := h _ _ _ _ h1 w m hs hn
    obtain ⟨w2, m2, g4, g5, g6⟩ := k _ _ _ _ hr w1 m1 g2 g3
    exact ⟨w2, m2, by rw [St.run, g1]; exact g4, g5, g6⟩
theorem does_skip {s x : St} {a u : Nat} (h : Does s (.both x .skip) a u) : Does s x a u := by
  intro v n v' n' hr w m hs hn
  obtain ⟨w', m', g1, g2⟩ := h v n v' n' hr w m hs hn
  refine ⟨w', m', ?_, g2⟩
  rw [St.run] at g1
  cases hx : x.run w m with
  | none => rw [hx] at g1; cases g1
  | some r => obtain ⟨v1, n1⟩ := r; rw [hx] at g1; exact g1
theorem does_skip1 {s x : St} {a u : Nat} (h : Does s (.both .skip x) a u) : Does s x a u := by
  intro v n v' n' hr w m hs hn
  obtain ⟨w', m', g1, g2⟩ := h v n v' n' hr w m hs hn
  exact ⟨w', m', by rw [St.run] at g1; exact g1, g2⟩
theorem cut_does {s : St} (hs : s.ok) : ∀ {u : Nat}, u < 64 → Does s ((s.cut u).getD .skip) (s.need u).1 u := by
  induction s with
  | skip =>
    intro u hu v n v' n' hr w m hw hn
    rw [St.run] at hr
    injection hr with hr; injection hr with h1 h2; subst h1; subst h2
    exact ⟨w, m, rfl, hw, hn⟩
  | set x e =>
    intro u hu v n v' n' hr w m hw hn
    rw [St.run] at hr
    split at hr
    · cases hr
    · rename_i hn0
      injection hr with hr; injection hr with h1 h2; subst h1; subst h2
      simp only [St.need, St.cut] at hw ⊢
      by_cases hx : u.testBit x = true
      · rw [if_pos hx] at hw ⊢
        refine ⟨w.set x (e.val w), m - 1, ?_, same_set hw, by omega⟩
        show (St.set x e).run w m = _
        rw [St.run, if_neg (by omega)]
      · rw [if_neg hx] at hw ⊢
        exact ⟨w, m, rfl, (Same.set1 (low := Bits u) hx _).symm.trans hw, by omega⟩
  | both a b iha ihb =>
    intro u hu
    have h := does_both (iha hs.1 (need_lt hs.2 hu)) (ihb hs.2 hu)
    simp only [St.need, St.cut]
    cases ha : a.cut (b.need u).1 with
    | none =>
      rw [ha] at h
      exact does_skip1 h
    | some x =>
      rw [ha] at h
      cases hb : b.cut u with
      | none => rw [hb] at h; exact does_skip h
      | some y => rw [hb] at h; exact h
  | ite e a b iha ihb =>
    intro u hu v n v' n' hr w m hw hn
    rw [St.run] at hr
    split at hr
    · cases hr
    · rename_i hn0
      simp only [St.need, St.cut] at hw ⊢
      by_cases hx : ((a.need u).2 || (b.need u).2) = true
      · rw [if_pos hx] at hw ⊢
        have hv : e.val v = e.val w := Ex.val_same hw (fun j hj => by show Nat.testBit _ _ = true; rw [tb_or, hj, Bool.or_true])
        have wa : Same (Bits (a.need u).1) v w := hw.sub ((Sub.left _ _).trans (Sub.left _ _))
        have wb : Same (Bits (b.need u).1) v w := hw.sub ((Sub.right _ _).trans (Sub.left _ _))
        split at hr
        · rename_i h0
          obtain ⟨w', m', g1, g2, g3⟩ := iha hs.2.1 hu _ _ _ _ hr w (m - 1) wa (by omega)
          refine ⟨w', m', ?_, g2, g3⟩
          show (St.ite e _ _).run w m = _
          rw [St.run, if_neg (by omega), if_pos (by rw [← hv]; exact h0)]; exact g1
        · rename_i h0
          obtain ⟨w', m', g1, g2, g3⟩ := ihb hs.2.2 hu _ _ _ _ hr w (m - 1) wb (by omega)
          refine ⟨w', m', ?_, g2, g3⟩
          show (St.ite e _ _).run w m = _
          rw [St.run, if_neg (by omega), if_neg (by rw [← hv]; exact h0)]; exact g1
      · rw [if_neg hx] at hw ⊢
        rw [Bool.not_eq_true, Bool.or_eq_false_iff] at hx
        have ha := iha hs.2.1 hu
        have hb := ihb hs.2.2 hu
        rw [need_none hx.1, cut_none hx.1] at ha
        rw [need_none hx.2, cut_none hx.2] at hb
        split at hr
        · exact ha _ _ _ _ hr w m hw (by omega)
        · exact hb _ _ _ _ hr w m hw (by omega)
  | loop e a iha =>
    intro u hu v n v' n' hr w m hw hn
    rw [need_loop] at hw
    simp only [St.cut]
    have hleft := fun v n v' n' h => St.left (s := a) v n v' n' h
    by_cases hx : (a.need u).2 = true
    · rw [if_pos hx] at hw ⊢
      obtain ⟨r6, ru, re, ra, -⟩ := loop_fix hs.1 hs.2 hu
      generalize rise (St.once e a) 64 u = r at *
      have ha := iha hs.2 r6
      have : ∀ k v n v' n', spin e.val a.run k v n = some (v', n') → ∀ w m, Same (Bits r) v w → n ≤ m → ∃ w' m', (St.loop e ((a.cut r).getD .skip)).run w m = some (w', m') ∧ Same (Bits r) v' w' ∧ n' ≤ m' := fun k => by
        induction k with
        | zero => intro v n v' n' h; simp [spin] at h
        | succ k ih =>
          intro v n v' n' h w m hw hn
          rw [spin] at h
          split at h
          · cases h
          · rename_i hn0
            have hv : e.val v = e.val w := Ex.val_same hw re
            rw [St.run_loop, if_neg (by omega)]
            split at h
            · rename_i h0
              injection h with h; injection h with h1 h2; subst h1; subst h2
              exact ⟨w, m - 1, by rw [if_pos (by rw [← hv]; exact h0)], hw, by omega⟩
            · rename_i h0
              rw [if_neg (by rw [← hv]; exact h0)]
              split at h
              · cases h
              · rename_i v1 n1 h1
                obtain ⟨w1, m1, g1, g2, g3⟩ := ha _ _ _ _ h1 w (m - 1) (hw.sub ra) (by omega)
                obtain ⟨w2, m2, g4, g5⟩ := ih _ _ _ _ h w1 m1 g2 g3
                exact ⟨w2, m2, by rw [g1]; exact g4, g5⟩
      obtain ⟨w', m', g1, g2, g3⟩ := this _ _ _ _ _ hr w m hw hn
      exact ⟨w', m', g1, g2.sub ru, g3⟩
    · rw [if_neg hx] at hw ⊢
      rw [Bool.not_eq_true] at hx
      have ha := iha hs.2 hu
      rw [need_none hx, cut_none hx] at ha
      have h1 := spin_inv (R := fun x => Same (Bits u) x w) (fun v n v' n' h hv => by
        obtain ⟨w', m', g1, g2, _⟩ := ha _ _ _ _ h w n hv (Nat.le_refl _)
        have g1 : St.skip.run w n = some (w', m') := g1
        rw [St.run] at g1
        injection g1 with g1; injection g1 with e1 e2; subst e1
        exact g2) _ _ _ _ _ hr hw
      exact ⟨w, m, rfl, h1, by have := spin_left hleft _ _ _ _ _ hr; omega⟩
/-- What is not needed may be anything. -/
theorem need_same {s : St} (hs : s.ok) {u : Nat} (hu : u < 64) {v w v' w' : List Nat} {n m n' m' : Nat} (h1 : s.run v n = some (v', n')) (h2 : s.run w m = some (w', m')) (h : Same (Bits (s.need u).1) v w) : Same (Bits u) v' w' := by
  obtain ⟨x, k, g1, g2, _⟩ := cut_does hs hu _ _ _ _ h1 v (n + m) (Same.refl v) (by omega)
  obtain ⟨y, l, g3, g4, _⟩ := cut_does hs hu _ _ _ _ h2 v (n + m) h.symm (by omega)
  rw [g1] at g3
  injection g3 with g3; injection g3 with e1 e2; subst e1
  exact g2.trans g4.symm
end Go.Proofs.YtdgncngkalgknaaDoor

namespace Go.Proofs.YtdgncngkalgknaaDoor
set_option linter.unusedVariables false

theorem need_any_mono {s : St} (hs : s.ok) {t r : Nat} (hr : r < 64) (h : Sub t r) (hn : (s.need r).2 = false) : s.need t = (t, false) := by
  have h2 : (s.need t).2 = false := by
    cases hx : (s.need t).2 with
    | false => rfl
    | true => rw [(need_mono hs hr h).2 hx] at hn; cases hn
  exact Prod.ext (need_none h2) h2
theorem sub_lt {a b : Nat} (h : Sub a b) (hb : b < 64) : a < 64 := Nat.lt_of_le_of_lt h.le hb
theorem rise_same {f g : Nat → Nat} {r : Nat} (hfr : ∀ v, Sub v r → Sub (f v) r) (he : ∀ v, Sub v r → f v = g v) : ∀ (k v : Nat), Sub v r → rise f k v = rise g k v
  | 0, v, h => rfl
  | k + 1, v, h => by
    rw [rise, rise, ← he v h]
    split
    · rfl
    · exact rise_same hfr he k _ (hfr v h)
theorem once_in {e : Ex} {a : St} (ha : a.ok) {r : Nat} (hr : r < 64) (re : Sub e.names r) (ra : Sub (a.need r).1 r) {v : Nat} (h : Sub v r) : Sub (St.once e a v) r :=
  Sub.or (Sub.or h ((need_mono ha hr h).1.trans ra)) re
theorem rise_need {e : Ex} {a x : St} (ha : a.ok) {q : Nat} (hq : q < 64) (re : Sub e.names q) (ra : Sub (a.need q).1 q) (hx : ∀ v, Sub v q → x.need v = a.need v) (k v : Nat) (h : Sub v q) : rise (St.once e x) k v = rise (St.once e a) k v := by
  have he : ∀ v, Sub v q → St.once e x v = St.once e a v := fun v hv => by unfold St.once; rw [hx v hv]
  exact rise_same (r := q) (fun v hv => by rw [he v hv]; exact once_in ha hq re ra hv) he k v h
/-- What is left needs what the whole did. -/
theorem cut_need {s : St} (hs : s.ok) : ∀ {r t : Nat}, r < 64 → Sub t r → ((s.cut r).getD .skip).need t = s.need t := by
  induction s with
  | skip => intro r t hr h; rfl
  | set x e =>
    intro r t hr h
    simp only [St.cut]
    by_cases hx : r.testBit x = true
    · rw [if_pos hx]; rfl
    · rw [if_neg hx]
      have : ¬ t.testBit x = true := fun e => hx (h x e)
      simp only [St.need]
      rw [if_neg this]; rfl
  | both a b iha ihb =>
    intro r t hr h
    have hb := ihb hs.2 hr h
    have ha := iha hs.1 (need_lt hs.2 hr) (need_mono hs.2 hr h).1
    simp only [St.cut]
    cases hca : a.cut (b.need r).1 with
    | none =>
      rw [hca] at ha
      have ha : St.skip.need (b.need t).1 = a.need (b.need t).1 := ha
      cases hcb : b.cut r with
      | none =>
        rw [hcb] at hb
        have hb : St.skip.need t = b.need t := hb
        show St.skip.need t = _
        simp only [St.need] at ha hb ⊢
        rw [← ha, ← hb]; rfl
      | some y =>
        rw [hcb] at hb
        have hb : y.need t = b.need t := hb
        show y.need t = _
        simp only [St.need] at ha ⊢
        rw [← ha, hb]; simp
    | some x =>
      rw [hca] at ha
      have ha : x.need (b.need t).1 = a.need (b.need t).1 := ha
      cases hcb : b.cut r with
      | none =>
        rw [hcb] at hb
        have hb : St.skip.need t = b.need t := hb
        show x.need t = _
        simp only [St.need] at hb ⊢
        rw [← hb] at ha ⊢
        have ha : x.need t = a.need t := ha
        show x.need t = ((a.need t).1, (a.need t).2 || false)
        rw [ha, Bool.or_false]
      | some y =>
        rw [hcb] at hb
        have hb : y.need t = b.need t := hb
        show (St.both x y).need t = _
        simp only [St.need]
        rw [hb, ha]
  | ite e a b iha ihb =>
    intro r t hr h
    have ha := iha hs.2.1 hr h
    have hb := ihb hs.2.2 hr h
    by_cases hx : ((a.need r).2 || (b.need r).2) = true
    · simp only [St.cut]
      rw [if_pos hx]
      show (St.ite e _ _).need t = _
      simp only [St.need]
      rw [ha, hb]
    · have hn : ((St.ite e a b).need r).2 = false := by simp only [St.need]; rw [if_neg hx]
      rw [cut_none hn, need_any_mono (s := .ite e a b) hs hr h hn]; rfl
  | loop e a iha =>
    intro r t hr h
    by_cases hx : (a.need r).2 = true
    · simp only [St.cut]
      rw [if_pos hx]
      obtain ⟨r6, ru, re, ra, -⟩ := loop_fix hs.1 hs.2 hr
      generalize rise (St.once e a) 64 r = q at *
      have ha := fun v (hv : Sub v q) => iha hs.2 r6 hv
      show (St.loop e ((a.cut q).getD .skip)).need t = _
      rw [need_loop, need_loop, ha t (h.trans ru), rise_same (g := St.once e a) (r := q) (fun v hv => by
        unfold St.once
        rw [ha v hv]; exact once_in hs.2 r6 re ra hv) (fun v hv => by unfold St.once; rw [ha v hv]) 64 t (h.trans ru)]
    · have hn : ((St.loop e a).need r).2 = false := by rw [need_loop, if_neg hx]
      rw [cut_none hn, need_any_mono (s := .loop e a) hs hr h hn]; rfl
/-- Cut again it stays. -/
theorem cut_cut {s : St} (hs : s.ok) : ∀ {r : Nat}, r < 64 → ((s.cut r).getD .skip).cut r = s.cut r := by
  induction s with
  | skip => intro r hr; rfl
  | set x e =>
    intro r hr
    simp only [St.cut]
    by_cases hx : r.testBit x = true
    · rw [if_pos hx]; show (St.set x e).cut r = _; rw [St.cut, if_pos hx]
    · rw [if_neg hx]; rfl
  | both a b iha ihb =>
    intro r hr
    have hb := ihb hs.2 hr
    have ha := iha hs.1 (need_lt hs.2 hr)
    have hbn := cut_need hs.2 hr (Sub.refl r)
    simp only [St.cut]
    cases hca : a.cut (b.need r).1 with
    | none =>
      cases hcb : b.cut r with
      | none => rfl
      | some y =>
        rw [hcb] at hb
        exact hb
    | some x =>
      rw [hca] at ha
      have ha : x.cut (b.need r).1 = some x := ha
      cases hcb : b.cut r with
      | none =>
        have : (b.need r).2 = false := by rw [← cut_isSome, hcb]; rfl
        rw [need_none this] at ha
        exact ha
      | some y =>
        rw [hcb] at hb hbn
        have hb : y.cut r = some y := hb
        have hbn : y.need r = b.need r := hbn
        show (St.both x y).cut r = some (.both x y)
        rw [St.cut, hbn, ha, hb]; rfl
  | ite e a b iha ihb =>
    intro r hr
    by_cases hx : ((a.need r).2 || (b.need r).2) = true
    · simp only [St.cut]
      rw [if_pos hx]
      show (St.ite e _ _).cut r = _
      rw [St.cut, cut_need hs.2.1 hr (Sub.refl r), cut_need hs.2.2 hr (Sub.refl r), if_pos hx, iha hs.2.1 hr, ihb hs.2.2 hr]
    · have hn : ((St.ite e a b).need r).2 = false := by simp only [St.need]; rw [if_neg hx]
      rw [cut_none hn]; rfl
  | loop e a iha =>
    intro r hr
    by_cases hx : (a.need r).2 = true
    · simp only [St.cut]
      rw [if_pos hx]
      obtain ⟨r6, ru, re, ra, -⟩ := loop_fix hs.1 hs.2 hr
      obtain ⟨q, hq⟩ : ∃ q, rise (St.once e a) 64 r = q := ⟨_, rfl⟩
      have ha := fun v (hv : Sub v q) => cut_need (r := q) hs.2 (by rw [← hq]; exact r6) hv
      have hi := iha hs.2 (r := q) (by rw [← hq]; exact r6)
      have hru : Sub r q := by rw [← hq]; exact ru
      have hrq := rise_need (e := e) hs.2 (q := q) (by rw [← hq]; exact r6) (by rw [← hq]; exact re) (by rw [← hq]; exact ra) ha 64 r hru
      rw [hq] at hrq ⊢
      show (St.loop e ((a.cut q).getD .skip)).cut r = _
      rw [St.cut, ha r hru, if_pos hx, hrq, hi]
    · have hn : ((St.loop e a).need r).2 = false := by rw [need_loop, if_neg hx]
      rw [cut_none hn]; rfl

/-- All that are needed may flow in. -/
theorem need_flows {R : Nat → Nat → Prop} (h0 : ∀ i, R i i) (h1 : ∀ i j k, R i j → R j k → R i k) {s : St} : ∀ {t u : Nat}, (∀ p ∈ s.sets t, ∀ j, p.2.testBit j = true → R p.1 j) →
    (∀ j, (s.need u).1.testBit j = true → ∃ i, u.testBit i = true ∧ R i j) ∧ ((s.need u).2 = true → ∀ j, t.testBit j = true → ∃ i, u.testBit i = true ∧ R i j) := by
  induction s with
  | skip => intro t u _; exact ⟨fun j hj => ⟨j, hj, h0 j⟩, fun e => by cases e⟩
  | set x e =>
    intro t u h
    have hx := h (x, t ||| e.names) (List.mem_singleton.2 rfl)
    simp only [St.need]
    by_cases hu : u.testBit x = true
    · rw [if_pos hu]
      refine ⟨fun j hj => ?_, fun _ j hj => ⟨x, hu, hx j (by show Nat.testBit _ _ = true; rw [tb_or, hj]; rfl)⟩⟩
      rw [tb_or, diff_bit, Bool.or_eq_true, Bool.and_eq_true] at hj
      rcases hj with hj | hj
      · exact ⟨j, hj.1, h0 j⟩
      · exact ⟨x, hu, hx j (by show Nat.testBit _ _ = true; rw [tb_or, hj, Bool.or_true])⟩
    · rw [if_neg hu]
      exact ⟨fun j hj => ⟨j, hj, h0 j⟩, fun e => by cases e⟩
  | both a b iha ihb =>
    intro t u h
    have ha := iha (u := (b.need u).1) (fun p hp => h p (List.mem_append.2 (.inl hp)))
    have hb := ihb (u := u) (fun p hp => h p (List.mem_append.2 (.inr hp)))
    have go : ∀ j, (∃ i, (b.need u).1.testBit i = true ∧ R i j) → ∃ i, u.testBit i = true ∧ R i j := fun j ⟨i, hi, hr⟩ => by
      obtain ⟨k, hk, hr2⟩ := hb.1 i hi
      exact ⟨k, hk, h1 _ _ _ hr2 hr⟩
    refine ⟨fun j hj => go j (ha.1 j hj), fun e j hj => ?_⟩
    simp only [St.need, Bool.or_eq_true] at e
    exact e.elim (fun e => go j (ha.2 e j hj)) (fun e => hb.2 e j hj)
  | ite e a b iha ihb =>
    intro t u h
    have ha := iha (u := u) (fun p hp => h p (List.mem_append.2 (.inl hp)))
    have hb := ihb (u := u) (fun p hp => h p (List.mem_append.2 (.inr hp)))
    simp only [St.need]
    by_cases hx : ((a.need u).2 || (b.need u).2) = true
    · rw [if_pos hx]
      rw [Bool.or_eq_true] at hx
      have hc : ∀ j, (t ||| e.names).testBit j = true → ∃ i, u.testBit i = true ∧ R i j := fun j hj => hx.elim (fun e => ha.2 e j hj) (fun e => hb.2 e j hj)
      refine ⟨fun j hj => ?_, fun _ j hj => hc j (by rw [tb_or, hj]; rfl)⟩
      rw [tb_or, tb_or, Bool.or_eq_true, Bool.or_eq_true] at hj
      rcases hj with (hj | hj) | hj
      · exact ha.1 j hj
      · exact hb.1 j hj
      · exact hc j (by rw [tb_or, hj, Bool.or_true])
    · rw [if_neg hx]
      exact ⟨fun j hj => ⟨j, hj, h0 j⟩, fun e => by cases e⟩
  | loop e a iha =>
    intro t u h
    rw [need_loop]
    by_cases hx : (a.need u).2 = true
    · rw [if_pos hx]
      have hc := (iha (u := u) h).2 hx
      refine ⟨?_, fun _ j hj => hc j (by rw [tb_or, hj]; rfl)⟩
      have : ∀ k v, (∀ j, v.testBit j = true → ∃ i, u.testBit i = true ∧ R i j) → ∀ j, (rise (St.once e a) k v).testBit j = true → ∃ i, u.testBit i = true ∧ R i j := fun k => by
        induction k with
        | zero => intro v hv; exact hv
        | succ k ih =>
          intro v hv
          rw [rise]
          split
          · exact hv
          · refine ih _ fun j hj => ?_
            unfold St.once at hj
            rw [tb_or, tb_or, Bool.or_eq_true, Bool.or_eq_true] at hj
            rcases hj with (hj | hj) | hj
            · exact hv j hj
            · obtain ⟨i, hi, hr⟩ := (iha (u := v) h).1 j hj
              obtain ⟨k, hk, hr2⟩ := hv i hi
              exact ⟨k, hk, h1 _ _ _ hr2 hr⟩
            · exact hc j (by rw [tb_or, hj, Bool.or_true])
      exact this 64 u (fun j hj => ⟨j, hj, h0 j⟩)
    · rw [if_neg hx]
      exact ⟨fun j hj => ⟨j, hj, h0 j⟩, fun e => by cases e⟩

/-- What those of the first so many that will do have in common. -/
def meetTo (q : Nat → Bool) : Nat → Nat
  | 0 => 63
  | t + 1 => if q t then meetTo q t &&& t else meetTo q t
theorem meetTo_sub {q : Nat → Bool} {r : Nat} (hr : Sub r 63) (hl : ∀ t, t < 64 → q t = true → Sub r t) : ∀ t, t ≤ 64 → Sub r (meetTo q t)
  | 0, _ => hr
  | t + 1, ht => by
    rw [meetTo]
    split
    · rename_i h
      intro j hj
      rw [Nat.testBit_and, meetTo_sub hr hl t (by omega) j hj, hl t (by omega) h j hj]; rfl
    · exact meetTo_sub hr hl t (by omega)
theorem meetTo_le {q : Nat → Bool} {r : Nat} (hq : q r = true) : ∀ t, r < t → Sub (meetTo q t) r
  | 0, ht => by omega
  | t + 1, ht => by
    rw [meetTo]
    by_cases e : r = t
    · subst e
      rw [if_pos hq]
      intro j hj
      rw [Nat.testBit_and, Bool.and_eq_true] at hj; exact hj.2
    · have := meetTo_le hq t (by omega)
      split
      · intro j hj
        rw [Nat.testBit_and, Bool.and_eq_true] at hj; exact this j hj.1
      · exact this
/-- The least that will do is what all that will do have in common. -/
theorem meet_is {q : Nat → Bool} {r : Nat} (hr : r < 64) (hq : q r = true) (hl : ∀ t, t < 64 → q t = true → Sub r t) : meetTo q 64 = r :=
  Sub.eq (meetTo_le hq 64 hr) (meetTo_sub (fun j hj => by
    have hj6 : j < 6 := by
      apply Classical.byContradiction; intro e
      rw [Nat.testBit_lt_two_pow (Nat.lt_of_lt_of_le hr (show 64 ≤ 2 ^ j from Nat.pow_le_pow_right (n := 2) (by decide) (show 6 ≤ j by omega)))] at hj; cases hj
    have : ∀ j, j < 6 → Nat.testBit 63 j = true := by decide
    exact this j hj6) hl 64 (Nat.le_refl _))
end Go.Proofs.YtdgncngkalgknaaDoor

namespace Go.Proofs.YtdgncngkalgknaaDoor
set_option linter.unusedVariables false

def Ex.cnt : Ex → Nat
  | num _ => 1
  | var _ => 1
  | op _ a b => 1 + (a.cnt + b.cnt)
def St.cnt : St → Nat
  | skip => 1
  | set _ e => 1 + e.cnt
  | both a b => 1 + (a.cnt + b.cnt)
  | ite e a b => 1 + (e.cnt + (a.cnt + b.cnt))
  | loop e a => 1 + (e.cnt + a.cnt)
theorem Ex.cnt_pos (e : Ex) : 1 ≤ e.cnt := by cases e <;> simp [Ex.cnt] <;> omega
theorem St.cnt_pos (s : St) : 1 ≤ s.cnt := by cases s <;> simp [St.cnt] <;> omega
theorem IsEx.cnt_le {P : List Int} {i : Nat} {e : Ex} (h : IsEx P i e) : ∀ f, i < f → 22 * e.cnt ≤ szN P f i := by
  induction h with
  | @num i n h0 h1 h2 =>
    intro f hf
    obtain ⟨f, rfl⟩ : ∃ g, f = g + 1 := ⟨f - 1, by omega⟩
    rw [szN, Ex.cnt]
    omega
  | @var i n h0 h1 h2 =>
    intro f hf
    obtain ⟨f, rfl⟩ : ∃ g, f = g + 1 := ⟨f - 1, by omega⟩
    rw [szN, Ex.cnt]
    omega
  | @op i k a b x y h1 h2 h0 ha hb la lb _ _ iha ihb =>
    intro f hf
    obtain ⟨f, rfl⟩ : ∃ g, f = g + 1 := ⟨f - 1, by omega⟩
    have hp : partsOf P i = [(a : Int), (b : Int)] := by
      unfold partsOf partsL; rw [h0, ha, hb, if_neg (by omega), if_neg (by omega), if_pos (by omega)]
    have := iha f (by omega)
    have := ihb f (by omega)
    rw [szN, hp, Ex.cnt]
    simp
    omega
theorem IsSt.cnt_le {P : List Int} {i : Nat} {s : St} (h : IsSt P i s) : ∀ f, i < f → 22 * s.cnt ≤ szN P f i := by
  induction h with
  | skip h0 =>
    intro f hf
    obtain ⟨f, rfl⟩ : ∃ g, f = g + 1 := ⟨f - 1, by omega⟩
    rw [szN, St.cnt]
    omega
  | @set i n a x h0 h1 hn h2 la he =>
    intro f hf
    obtain ⟨f, rfl⟩ : ∃ g, f = g + 1 := ⟨f - 1, by omega⟩
    have hp : partsOf P i = [(a : Int)] := by unfold partsOf partsL; rw [h0, h2]; rfl
    have := he.cnt_le f (by omega)
    rw [szN, hp, St.cnt]
    simp
    omega
  | @both i a b x y h0 ha hb la lb _ _ iha ihb =>
    intro f hf
    obtain ⟨f, rfl⟩ : ∃ g, f = g + 1 := ⟨f - 1, by omega⟩
    have hp : partsOf P i = [(a : Int), (b : Int)] := by unfold partsOf partsL; rw [h0, ha, hb]; rfl
    have := iha f (by omega)
    have := ihb f (by omega)
    rw [szN, hp, St.cnt]
    simp
    omega
  | @ite i a b c x y z h0 ha hb hc la lb lc he _ _ ihb ihc =>
    intro f hf
    obtain ⟨f, rfl⟩ : ∃ g, f = g + 1 := ⟨f - 1, by omega⟩
    have hp : partsOf P i = [(a : Int), (b : Int), (c : Int)] := by unfold partsOf partsL; rw [h0, ha, hb, hc]; rfl
    have := he.cnt_le f (by omega)
    have := ihb f (by omega)
    have := ihc f (by omega)
    rw [szN, hp, St.cnt]
    simp
    omega
  | @loop i a b x y h0 ha hb la lb he _ ihb =>
    intro f hf
    obtain ⟨f, rfl⟩ : ∃ g, f = g + 1 := ⟨f - 1, by omega⟩
    have hp : partsOf P i = [(a : Int), (b : Int)] := by unfold partsOf partsL; rw [h0, ha, hb]; rfl
    have := he.cnt_le f (by omega)
    have := ihb f (by omega)
    rw [szN, hp, St.cnt]
    simp
    omega
theorem root_cnt {P : List Int} {n : Nat} {s : St} (h : progCode P (n + 1) = 0) (hs : IsSt P n s) : s.cnt ≤ n + 1 := by
  have := hs.cnt_le (n + 1) (Nat.lt_succ_self _)
  rw [root_size h] at this
  omega
theorem cut_cnt {s : St} : ∀ {u : Nat} {t : St}, s.cut u = some t → t.cnt ≤ s.cnt := by
  have hd : ∀ {s : St} (h : ∀ {u : Nat} {t : St}, s.cut u = some t → t.cnt ≤ s.cnt) (u : Nat), ((s.cut u).getD .skip).cnt ≤ s.cnt := by
    intro s h u
    cases hc : s.cut u with
    | none => exact s.cnt_pos
    | some t => exact h hc
  induction s with
  | skip => intro u t h; cases h
  | set x e => intro u t h; simp only [St.cut] at h; split at h; · cases h; exact Nat.le_refl _
               · cases h
  | both a b iha ihb =>
    intro u t h
    simp only [St.cut] at h
    cases ha : a.cut (b.need u).1 with
    | none =>
      rw [ha, pair2] at h
      have := ihb h
      rw [St.cnt]; omega
    | some x =>
      have h1 := iha ha
      cases hb : b.cut u with
      | none => rw [ha, hb, pair2] at h; cases h; rw [St.cnt]; omega
      | some y =>
        have h2 := ihb hb
        rw [ha, hb, pair2] at h; cases h; rw [St.cnt, St.cnt]; omega
  | ite e a b iha ihb =>
    intro u t h
    simp only [St.cut] at h
    split at h
    · cases h
      have := hd iha u
      have := hd ihb u
      rw [St.cnt, St.cnt]; omega
    · cases h
  | loop e a iha =>
    intro u t h
    simp only [St.cut] at h
    split at h
    · cases h
      have := hd iha (rise (St.once e a) 64 u)
      rw [St.cnt, St.cnt]; omega
    · cases h
theorem cut_cnt0 (s : St) (u : Nat) : ((s.cut u).getD .skip).cnt ≤ s.cnt := by
  cases hc : s.cut u with
  | none => exact s.cnt_pos
  | some t => exact cut_cnt hc
end Go.Proofs.YtdgncngkalgknaaDoor

namespace Go.Proofs.YtdgncngkalgknaaDoor
set_option linter.unusedVariables false

inductive RE where
  | leaf (k n a c d : Int)
  | op (k n d : Int) (x y : RE)
inductive RS where
  | skip
  | set (n c d : Int) (e : RE)
  | both (x y : RS)
  | ite (e : RE) (x y : RS)
  | loop (e : RE) (x : RS)
def RE.cnt : RE → Nat
  | leaf _ _ _ _ _ => 1
  | op _ _ _ x y => x.cnt + y.cnt + 1
def RE.ex : RE → Ex
  | leaf k n _ _ _ => if k = 0 then .num n.toNat else .var n.toNat
  | op k _ _ x y => .op k.toNat x.ex y.ex
def RE.lay : RE → Nat → List Int
  | leaf k n a c d, _ => [k, n, a, c, d]
  | op k n d x y, b => (x.lay b ++ y.lay (b + x.cnt)) ++ [k, n, ((b + x.cnt - 1 : Nat) : Int), ((b + x.cnt + y.cnt - 1 : Nat) : Int), d]
def RS.cnt : RS → Nat
  | skip => 1
  | set _ _ _ e => e.cnt + 1
  | both x y => x.cnt + y.cnt + 1
  | ite e x y => e.cnt + x.cnt + y.cnt + 1
  | loop e x => e.cnt + x.cnt + 1
def RS.st : RS → St
  | skip => .skip
  | set n _ _ e => .set n.toNat e.ex
  | both x y => .both x.st y.st
  | ite e x y => .ite e.ex x.st y.st
  | loop e x => .loop e.ex x.st
def RS.lay : RS → Nat → List Int
  | skip, _ => [5, 0, 0, 0, 0]
  | set n c d e, b => e.lay b ++ [6, n, ((b + e.cnt - 1 : Nat) : Int), c, d]
  | both x y, b => (x.lay b ++ y.lay (b + x.cnt)) ++ [7, 0, ((b + x.cnt - 1 : Nat) : Int), ((b + x.cnt + y.cnt - 1 : Nat) : Int), 0]
  | ite e x y, b => ((e.lay b ++ x.lay (b + e.cnt)) ++ y.lay (b + e.cnt + x.cnt)) ++ [8, 0, ((b + e.cnt - 1 : Nat) : Int), ((b + e.cnt + x.cnt - 1 : Nat) : Int), ((b + e.cnt + x.cnt + y.cnt - 1 : Nat) : Int)]
  | loop e x, b => (e.lay b ++ x.lay (b + e.cnt)) ++ [9, 0, ((b + e.cnt - 1 : Nat) : Int), ((b + e.cnt + x.cnt - 1 : Nat) : Int), 0]
/-- Node i is this value. -/
inductive IsRE (P : List Int) : Nat → RE → Prop where
  | leaf {i : Nat} {k n a c d : Int} : nd P i 0 = k → nd P i 1 = n → nd P i 2 = a → nd P i 3 = c → nd P i 4 = d → (k = 0 ∧ 0 ≤ n ∧ n ≤ 999999 ∨ k = 1 ∧ 0 ≤ n ∧ n < 6) → IsRE P i (.leaf k n a c d)
  | op {i a b : Nat} {k n d : Int} {x y : RE} : 2 ≤ k → k ≤ 4 → nd P i 0 = k → nd P i 1 = n → nd P i 2 = a → nd P i 3 = b → nd P i 4 = d → a < i → b < i → IsRE P a x → IsRE P b y → IsRE P i (.op k n d x y)
/-- Node i is this deed. -/
inductive IsRS (P : List Int) : Nat → RS → Prop where
  | skip {i : Nat} : nd P i 0 = 5 → IsRS P i .skip
  | set {i a : Nat} {n c d : Int} {x : RE} : nd P i 0 = 6 → nd P i 1 = n → 0 ≤ n → n < 6 → nd P i 2 = a → nd P i 3 = c → nd P i 4 = d → a < i → IsRE P a x → IsRS P i (.set n c d x)
  | both {i a b : Nat} {x y : RS} : nd P i 0 = 7 → nd P i 2 = a → nd P i 3 = b → a < i → b < i → IsRS P a x → IsRS P b y → IsRS P i (.both x y)
  | ite {i a b c : Nat} {x : RE} {y z : RS} : nd P i 0 = 8 → nd P i 2 = a → nd P i 3 = b → nd P i 4 = c → a < i → b < i → c < i → IsRE P a x → IsRS P b y → IsRS P c z → IsRS P i (.ite x y z)
  | loop {i a b : Nat} {x : RE} {y : RS} : nd P i 0 = 9 → nd P i 2 = a → nd P i 3 = b → a < i → b < i → IsRE P a x → IsRS P b y → IsRS P i (.loop x y)
theorem IsRE.is {P : List Int} {i : Nat} {r : RE} (h : IsRE P i r) : IsEx P i r.ex := by
  induction h with
  | @leaf i k n a c d h0 h1 h2 h3 h4 hk =>
    rcases hk with ⟨rfl, hk⟩ | ⟨rfl, hk⟩
    · exact .num h0 (by omega) (by omega)
    · exact .var h0 (by omega) (by omega)
  | op h1 h2 h0 hn ha hb hd la lb _ _ iha ihb => exact .op (by omega) (by omega) (by omega) ha hb la lb iha ihb
theorem IsRS.is {P : List Int} {i : Nat} {r : RS} (h : IsRS P i r) : IsSt P i r.st := by
  induction h with
  | skip h0 => exact .skip h0
  | set h0 h1 hn hn6 ha hc hd la he => exact .set h0 (by omega) (by omega) ha la he.is
  | both h0 ha hb la lb _ _ iha ihb => exact .both h0 ha hb la lb iha ihb
  | ite h0 ha hb hc la lb lc he _ _ iha ihb => exact .ite h0 ha hb hc la lb lc he.is iha ihb
  | loop h0 ha hb la lb he _ iha => exact .loop h0 ha hb la lb he.is iha
theorem raw_ex {P : List Int} {i : Nat} {e : Ex} (h : IsEx P i e) : ∃ r, IsRE P i r ∧ r.ex = e := by
  induction h with
  | @num i n h0 h1 h2 => exact ⟨.leaf 0 n _ _ _, .leaf h0 h1 rfl rfl rfl (.inl ⟨rfl, by omega, by omega⟩), by simp [RE.ex]⟩
  | @var i n h0 h1 h2 => exact ⟨.leaf 1 n _ _ _, .leaf h0 h1 rfl rfl rfl (.inr ⟨rfl, by omega, by omega⟩), by simp [RE.ex]⟩
  | @op i k a b x y h1 h2 h0 ha hb la lb _ _ iha ihb =>
    obtain ⟨r1, g1, e1⟩ := iha
    obtain ⟨r2, g2, e2⟩ := ihb
    exact ⟨.op k _ _ r1 r2, .op (by omega) (by omega) h0 rfl ha hb rfl la lb g1 g2, by simp [RE.ex, e1, e2]⟩
theorem raw_st {P : List Int} {i : Nat} {s : St} (h : IsSt P i s) : ∃ r, IsRS P i r ∧ r.st = s := by
  induction h with
  | skip h0 => exact ⟨.skip, .skip h0, rfl⟩
  | @set i n a x h0 h1 hn h2 la he =>
    obtain ⟨r, g, e⟩ := raw_ex he
    exact ⟨.set n _ _ r, .set h0 h1 (by omega) (by omega) h2 rfl rfl la g, by simp [RS.st, e]⟩
  | both h0 ha hb la lb _ _ iha ihb =>
    obtain ⟨r1, g1, rfl⟩ := iha
    obtain ⟨r2, g2, rfl⟩ := ihb
    exact ⟨.both r1 r2, .both h0 ha hb la lb g1 g2, rfl⟩
  | ite h0 ha hb hc la lb lc he _ _ iha ihb =>
    obtain ⟨r, g, rfl⟩ := raw_ex he
    obtain ⟨r1, g1, rfl⟩ := iha
    obtain ⟨r2, g2, rfl⟩ := ihb
    exact ⟨.ite r r1 r2, .ite h0 ha hb hc la lb lc g g1 g2, rfl⟩
  | loop h0 ha hb la lb he _ iha =>
    obtain ⟨r, g, rfl⟩ := raw_ex he
    obtain ⟨r1, g1, rfl⟩ := iha
    exact ⟨.loop r r1, .loop h0 ha hb la lb g g1, rfl⟩
theorem RE.cnt_ex : ∀ r : RE, r.ex.cnt = r.cnt
  | leaf k n a c d => by unfold RE.ex; split <;> rfl
  | op k n d x y => by rw [RE.ex, Ex.cnt, RE.cnt, cnt_ex x, cnt_ex y]; omega
theorem RS.cnt_st : ∀ r : RS, r.st.cnt = r.cnt
  | skip => rfl
  | set n c d e => by rw [RS.st, St.cnt, RS.cnt, e.cnt_ex]; omega
  | both x y => by rw [RS.st, St.cnt, RS.cnt, cnt_st x, cnt_st y]; omega
  | ite e x y => by rw [RS.st, St.cnt, RS.cnt, e.cnt_ex, cnt_st x, cnt_st y]; omega
  | loop e x => by rw [RS.st, St.cnt, RS.cnt, e.cnt_ex, cnt_st x]; omega
theorem RE.pos (r : RE) : 1 ≤ r.cnt := by cases r <;> simp [RE.cnt]
theorem RS.pos (r : RS) : 1 ≤ r.cnt := by cases r <;> simp [RS.cnt]
theorem RE.len : ∀ (r : RE) (b : Nat), (r.lay b).length = r.cnt * 5
  | leaf .., _ => rfl
  | op k n d x y, b => by rw [RE.lay, List.length_append, List.length_append, len x, len y, RE.cnt]; simp; omega
theorem RS.len : ∀ (r : RS) (b : Nat), (r.lay b).length = r.cnt * 5
  | skip, _ => rfl
  | set n c d e, b => by rw [RS.lay, List.length_append, e.len, RS.cnt]; simp; omega
  | both x y, b => by rw [RS.lay, List.length_append, List.length_append, len x, len y, RS.cnt]; simp; omega
  | ite e x y, b => by rw [RS.lay, List.length_append, List.length_append, List.length_append, e.len, len x, len y, RS.cnt]; simp; omega
  | loop e x, b => by rw [RS.lay, List.length_append, List.length_append, e.len, len x, RS.cnt]; simp; omega

/-- What is left. -/
def pairR : Option RS → Option RS → Option RS
  | some x, some y => some (.both x y)
  | some x, none => some x
  | none, y => y
def RS.cut : RS → Nat → Option RS
  | skip, _ => none
  | set n c d e, u => if u.testBit n.toNat then some (set n c d e) else none
  | both a b, u => pairR (a.cut (b.st.need u).1) (b.cut u)
  | ite e a b, u => if (a.st.need u).2 || (b.st.need u).2 then some (ite e ((a.cut u).getD skip) ((b.cut u).getD skip)) else none
  | loop e a, u => if (a.st.need u).2 then some (loop e ((a.cut (rise (St.once e.ex a.st) 64 u)).getD skip)) else none
theorem getD_st (a : Option RS) : (a.getD .skip).st = (a.map RS.st).getD .skip := by cases a <;> rfl
theorem RS.cut_st : ∀ (r : RS) (u : Nat), (r.cut u).map RS.st = r.st.cut u
  | skip, u => rfl
  | set n c d e, u => by simp only [RS.cut, RS.st, St.cut]; split <;> rfl
  | both a b, u => by
    simp only [RS.cut, RS.st, St.cut]
    rw [← cut_st a, ← cut_st b]
    cases a.cut (b.st.need u).1 <;> cases b.cut u <;> rfl
  | ite e a b, u => by
    simp only [RS.cut, RS.st, St.cut]
    split
    · rw [← cut_st a, ← cut_st b, Option.map_some, RS.st, getD_st, getD_st]
    · rfl
  | loop e a, u => by
    simp only [RS.cut, RS.st, St.cut]
    split
    · rw [← cut_st a, Option.map_some, RS.st, getD_st]
    · rfl
theorem RS.cut0_st (r : RS) (u : Nat) : ((r.cut u).getD .skip).st = (r.st.cut u).getD .skip := by rw [getD_st, r.cut_st]
theorem RS.cut0_cnt (r : RS) (u : Nat) : ((r.cut u).getD .skip).cnt ≤ r.cnt := by rw [← RS.cnt_st, ← RS.cnt_st, r.cut0_st]; exact cut_cnt0 _ _
theorem st_skip {r : RS} (h : r.st = .skip) : r = .skip := by cases r <;> first | rfl | cases h
/-- Of what all is left, that all is left. -/
theorem RS.cut_full : ∀ {r : RS} {u : Nat}, r.st.cut u = some r.st → r.cut u = some r := by
  have hs : ∀ {r : RS}, (∀ {u : Nat}, r.st.cut u = some r.st → r.cut u = some r) → ∀ {u : Nat}, (r.st.cut u).getD .skip = r.st → (r.cut u).getD .skip = r := by
    intro r h u e
    cases hc : r.st.cut u with
    | none =>
      rw [hc] at e
      have := st_skip e.symm
      subst this
      rfl
    | some x =>
      rw [hc] at e
      have e : x = r.st := e
      rw [h (by rw [hc, e])]
      rfl
  intro r
  induction r with
  | skip => intro u h; cases h
  | set n c d e =>
    intro u h
    simp only [RS.st, St.cut, RS.cut] at h ⊢
    split at h
    · rename_i h0; rw [if_pos h0]
    · cases h
  | both a b iha ihb =>
    intro u h
    simp only [RS.st, St.cut, RS.cut] at h ⊢
    cases ha : a.st.cut (b.st.need u).1 with
    | none =>
      rw [ha, pair2] at h
      have := cut_cnt h
      rw [St.cnt] at this
      omega
    | some x =>
      cases hb : b.st.cut u with
      | none =>
        rw [ha, hb, pair2] at h
        injection h with h
        have := cut_cnt ha
        rw [h, St.cnt] at this
        omega
      | some y =>
        rw [ha, hb, pair2] at h
        injection h with h
        injection h with h1 h2
        rw [iha (by rw [ha, h1]), ihb (by rw [hb, h2])]
        rfl
  | ite e a b iha ihb =>
    intro u h
    simp only [RS.st, St.cut, RS.cut] at h ⊢
    split at h
    · rename_i h0
      rw [if_pos h0]
      injection h with h
      injection h with h1 h2 h3
      rw [hs iha h2, hs ihb h3]
    · cases h
  | loop e a iha =>
    intro u h
    simp only [RS.st, St.cut, RS.cut] at h ⊢
    split at h
    · rename_i h0
      rw [if_pos h0]
      injection h with h
      injection h with h1 h2
      rw [hs iha h2]
    · cases h
/-- Cut again it stays. -/
theorem RS.cut_twice {r : RS} (hr : r.st.ok) {u : Nat} (hu : u < 64) : (((r.cut u).getD .skip).cut u).getD .skip = (r.cut u).getD .skip := by
  have h := cut_cut hr hu
  rw [← r.cut0_st] at h
  cases hc : r.cut u with
  | none => rfl
  | some t =>
    rw [hc] at h
    have h : t.st.cut u = r.st.cut u := h
    rw [← r.cut_st, hc] at h
    show (t.cut u).getD .skip = t
    rw [RS.cut_full h]
    rfl

/-- The fields that are asked for are right. -/
def RE.ok : RE → Prop
  | leaf k n a c d => k = 0 ∧ 0 ≤ n ∧ n ≤ 999999 ∨ k = 1 ∧ 0 ≤ n ∧ n < 6
  | op k n d x y => (2 ≤ k ∧ k ≤ 4) ∧ x.ok ∧ y.ok
def RS.ok : RS → Prop
  | skip => True
  | set n c d e => (0 ≤ n ∧ n < 6) ∧ e.ok
  | both x y => x.ok ∧ y.ok
  | ite e x y => e.ok ∧ x.ok ∧ y.ok
  | loop e x => e.ok ∧ x.ok
theorem IsRE.ok {P : List Int} {i : Nat} {r : RE} (h : IsRE P i r) : r.ok := by
  induction h with
  | leaf _ _ _ _ _ hk => exact hk
  | op h1 h2 _ _ _ _ _ _ _ _ _ iha ihb => exact ⟨⟨h1, h2⟩, iha, ihb⟩
theorem IsRS.ok {P : List Int} {i : Nat} {r : RS} (h : IsRS P i r) : r.ok := by
  induction h with
  | skip _ => trivial
  | set _ _ h1 h2 _ _ _ _ he => exact ⟨⟨h1, h2⟩, he.ok⟩
  | both _ _ _ _ _ _ _ iha ihb => exact ⟨iha, ihb⟩
  | ite _ _ _ _ _ _ _ he _ _ iha ihb => exact ⟨he.ok, iha, ihb⟩
  | loop _ _ _ _ _ he _ iha => exact ⟨he.ok, iha⟩
theorem ok_getD {a : Option RS} (h : ∀ x, a = some x → x.ok) : (a.getD .skip).ok := by
  cases a with
  | none => trivial
  | some x => exact h x rfl
theorem RS.cut_ok : ∀ {r : RS} (h : r.ok) {u : Nat} {t : RS}, r.cut u = some t → t.ok
  | skip, h, u, t, e => by cases e
  | set n c d x, h, u, t, e => by
    simp only [RS.cut] at e
    split at e
    · cases e; exact h
    · cases e
  | both a b, h, u, t, e => by
    simp only [RS.cut] at e
    cases ha : a.cut (b.st.need u).1 with
    | none => rw [ha, pairR] at e; exact cut_ok h.2 e
    | some x =>
      cases hb : b.cut u with
      | none => rw [ha, hb, pairR] at e; cases e; exact cut_ok h.1 ha
      | some y => rw [ha, hb, pairR] at e; cases e; exact ⟨cut_ok h.1 ha, cut_ok h.2 hb⟩
  | ite x a b, h, u, t, e => by
    simp only [RS.cut] at e
    split at e
    · cases e; exact ⟨h.1, ok_getD fun _ e => cut_ok h.2.1 e, ok_getD fun _ e => cut_ok h.2.2 e⟩
    · cases e
  | loop x a, h, u, t, e => by
    simp only [RS.cut] at e
    split at e
    · cases e; exact ⟨h.1, ok_getD fun _ e => cut_ok h.2 e⟩
    · cases e
theorem IsRE.ext {P : List Int} {i : Nat} {r : RE} (h : IsRE P i r) : ∀ {t : List Int}, i * 5 + 5 ≤ P.length → IsRE (P ++ t) i r := by
  induction h with
  | leaf h0 h1 h2 h3 h4 hk => exact fun hl => .leaf (by rw [nd_ext (by omega)]; exact h0) (by rw [nd_ext (by omega)]; exact h1) (by rw [nd_ext (by omega)]; exact h2) (by rw [nd_ext (by omega)]; exact h3) (by rw [nd_ext (by omega)]; exact h4) hk
  | op h1 h2 h0 hn ha hb hd la lb _ _ iha ihb => exact fun hl => .op h1 h2 (by rw [nd_ext (by omega)]; exact h0) (by rw [nd_ext (by omega)]; exact hn) (by rw [nd_ext (by omega)]; exact ha) (by rw [nd_ext (by omega)]; exact hb) (by rw [nd_ext (by omega)]; exact hd) la lb (iha (by omega)) (ihb (by omega))
theorem IsRS.ext {P : List Int} {i : Nat} {r : RS} (h : IsRS P i r) : ∀ {t : List Int}, i * 5 + 5 ≤ P.length → IsRS (P ++ t) i r := by
  induction h with
  | skip h0 => exact fun hl => .skip (by rw [nd_ext (by omega)]; exact h0)
  | set h0 h1 hn hn6 ha hc hd la he => exact fun hl => .set (by rw [nd_ext (by omega)]; exact h0) (by rw [nd_ext (by omega)]; exact h1) hn hn6 (by rw [nd_ext (by omega)]; exact ha) (by rw [nd_ext (by omega)]; exact hc) (by rw [nd_ext (by omega)]; exact hd) la (he.ext (by omega))
  | both h0 ha hb la lb _ _ iha ihb => exact fun hl => .both (by rw [nd_ext (by omega)]; exact h0) (by rw [nd_ext (by omega)]; exact ha) (by rw [nd_ext (by omega)]; exact hb) la lb (iha (by omega)) (ihb (by omega))
  | ite h0 ha hb hc la lb lc he _ _ iha ihb => exact fun hl => .ite (by rw [nd_ext (by omega)]; exact h0) (by rw [nd_ext (by omega)]; exact ha) (by rw [nd_ext (by omega)]; exact hb) (by rw [nd_ext (by omega)]; exact hc) la lb lc (he.ext (by omega)) (iha (by omega)) (ihb (by omega))
  | loop h0 ha hb la lb he _ iha => exact fun hl => .loop (by rw [nd_ext (by omega)]; exact h0) (by rw [nd_ext (by omega)]; exact ha) (by rw [nd_ext (by omega)]; exact hb) la lb (he.ext (by omega)) (iha (by omega))
/-- Laid behind what is there: one tree, whose root is the last. -/
theorem RE.got : ∀ {r : RE} (h : r.ok) {o : List Int} {b : Nat}, o.length = b * 5 → Got o b (b + r.cnt - 1) (o ++ r.lay b) ∧ IsRE (o ++ r.lay b) (b + r.cnt - 1) r
  | leaf k n a c d, h, o, b, hl => by
    have h : k = 0 ∧ 0 ≤ n ∧ n ≤ 999999 ∨ k = 1 ∧ 0 ≤ n ∧ n < 6 := h
    show Got o b b (o ++ [k, n, a, c, d]) ∧ IsRE (o ++ [k, n, a, c, d]) b _
    exact ⟨got_node (rs := []) ⟨[], by simp⟩ (Forest.nil (by omega)) hl (by unfold partsL; rcases h with ⟨rfl, -⟩ | ⟨rfl, -⟩ <;> rfl) (by omega) (by omega) (by omega) (fun q y hy => by simp at hy), .leaf (new0 hl) (new1 hl) (new2 hl) (new3 hl) (new4 hl) h⟩
  | op k n d x y, h, o, b, hl => by
    obtain ⟨⟨hk2, hk4⟩, hx, hy⟩ := h
    obtain ⟨g1, t1⟩ := got hx hl
    have hp1 := x.pos
    have hp2 := y.pos
    have g2l : (o ++ x.lay b).length = (b + x.cnt) * 5 := by rw [g1.len]; congr 1; omega
    obtain ⟨g2, t2⟩ := got hy g2l
    rw [List.append_assoc] at g2 t2
    have g1' : Forest (o ++ x.lay b) b (b + x.cnt) [((b + x.cnt - 1 : Nat) : Int)] := by have := g1.forest; rwa [show b + x.cnt - 1 + 1 = b + x.cnt by omega] at this
    have t1' : IsRE (o ++ (x.lay b ++ y.lay (b + x.cnt))) (b + x.cnt - 1) x := by rw [← List.append_assoc]; exact t1.ext (by rw [g1.len]; omega)
    have hlen : (o ++ (x.lay b ++ y.lay (b + x.cnt))).length = (b + x.cnt + y.cnt) * 5 := by rw [g2.len]; congr 1; omega
    have hf := Got.to (o2 := o) g1' (o := o ++ x.lay b) (by exact g2)
    rw [show b + x.cnt + y.cnt - 1 + 1 = b + x.cnt + y.cnt by omega] at hf
    rw [RE.lay, ← List.append_assoc, RE.cnt, show b + (x.cnt + y.cnt + 1) - 1 = b + x.cnt + y.cnt by omega]
    refine ⟨got_node (rs := [((b + x.cnt - 1 : Nat) : Int), ((b + x.cnt + y.cnt - 1 : Nat) : Int)]) ⟨_, rfl⟩ hf hlen ?_ (by omega) (by omega) (by omega) ?_, ?_⟩
    · unfold partsL; rw [if_neg (by omega), if_neg (by omega), if_pos (by omega)]
    · intro q z hz
      match q, hz with
      | 0, hz => cases hz; exact ⟨by omega, by rw [Int.toNat_natCast, decide_eq_true t1'.is.kind]; unfold askB; simp; omega⟩
      | 1, hz => cases hz; exact ⟨by omega, by rw [Int.toNat_natCast, decide_eq_true t2.is.kind]; unfold askB; simp; omega⟩
    · exact .op hk2 hk4 (new0 hlen) (new1 hlen) (new2 hlen) (new3 hlen) (new4 hlen) (by omega) (by omega) (t1'.ext (by rw [hlen]; omega)) (t2.ext (by rw [hlen]; omega))
theorem RS.got : ∀ {r : RS} (h : r.ok) {o : List Int} {b : Nat}, o.length = b * 5 → Got o b (b + r.cnt - 1) (o ++ r.lay b) ∧ IsRS (o ++ r.lay b) (b + r.cnt - 1) r
  | skip, h, o, b, hl => by
    show Got o b b (o ++ [5, 0, 0, 0, 0]) ∧ IsRS (o ++ [5, 0, 0, 0, 0]) b _
    exact ⟨got_node (rs := []) ⟨[], by simp⟩ (Forest.nil (by omega)) hl rfl (by omega) (by omega) (by omega) (fun q y hy => by simp at hy), .skip (new0 hl)⟩
  | set n c d e, h, o, b, hl => by
    obtain ⟨⟨hn, hn6⟩, he⟩ := h
    obtain ⟨g1, t1⟩ := e.got he hl
    have hp1 := e.pos
    have g1' : Forest (o ++ e.lay b) b (b + e.cnt) [((b + e.cnt - 1 : Nat) : Int)] := by have := g1.forest; rwa [show b + e.cnt - 1 + 1 = b + e.cnt by omega] at this
    have hlen : (o ++ e.lay b).length = (b + e.cnt) * 5 := by rw [g1.len]; congr 1; omega
    rw [RS.lay, ← List.append_assoc, RS.cnt, show b + (e.cnt + 1) - 1 = b + e.cnt by omega]
    refine ⟨got_node (rs := [((b + e.cnt - 1 : Nat) : Int)]) ⟨_, rfl⟩ g1' hlen rfl (by omega) (by omega) (by omega) ?_, ?_⟩
    · intro q z hz
      match q, hz with
      | 0, hz => cases hz; exact ⟨by omega, by rw [Int.toNat_natCast, decide_eq_true t1.is.kind]; decide⟩
    · exact .set (new0 hlen) (new1 hlen) hn hn6 (new2 hlen) (new3 hlen) (new4 hlen) (by omega) (t1.ext (by rw [hlen]; omega))
  | both x y, h, o, b, hl => by
    obtain ⟨hx, hy⟩ := h
    obtain ⟨g1, t1⟩ := got hx hl
    have hp1 := x.pos
    have hp2 := y.pos
    have g2l : (o ++ x.lay b).length = (b + x.cnt) * 5 := by rw [g1.len]; congr 1; omega
    obtain ⟨g2, t2⟩ := got hy g2l
    rw [List.append_assoc] at g2 t2
    have g1' : Forest (o ++ x.lay b) b (b + x.cnt) [((b + x.cnt - 1 : Nat) : Int)] := by have := g1.forest; rwa [show b + x.cnt - 1 + 1 = b + x.cnt by omega] at this
    have t1' : IsRS (o ++ (x.lay b ++ y.lay (b + x.cnt))) (b + x.cnt - 1) x := by rw [← List.append_assoc]; exact t1.ext (by rw [g1.len]; omega)
    have hlen : (o ++ (x.lay b ++ y.lay (b + x.cnt))).length = (b + x.cnt + y.cnt) * 5 := by rw [g2.len]; congr 1; omega
    have hf := Got.to (o2 := o) g1' (o := o ++ x.lay b) (by exact g2)
    rw [show b + x.cnt + y.cnt - 1 + 1 = b + x.cnt + y.cnt by omega] at hf
    rw [RS.lay, ← List.append_assoc, RS.cnt, show b + (x.cnt + y.cnt + 1) - 1 = b + x.cnt + y.cnt by omega]
    refine ⟨got_node (rs := [((b + x.cnt - 1 : Nat) : Int), ((b + x.cnt + y.cnt - 1 : Nat) : Int)]) ⟨_, rfl⟩ hf hlen rfl (by omega) (by omega) (by omega) ?_, ?_⟩
    · intro q z hz
      match q, hz with
      | 0, hz => cases hz; exact ⟨by omega, by rw [Int.toNat_natCast, decide_eq_false (by have := t1'.is.kind; omega)]; decide⟩
      | 1, hz => cases hz; exact ⟨by omega, by rw [Int.toNat_natCast, decide_eq_false (by have := t2.is.kind; omega)]; decide⟩
    · exact .both (new0 hlen) (new2 hlen) (new3 hlen) (by omega) (by omega) (t1'.ext (by rw [hlen]; omega)) (t2.ext (by rw [hlen]; omega))
  | loop x y, h, o, b, hl => by
    obtain ⟨hx, hy⟩ := h
    obtain ⟨g1, t1⟩ := x.got hx hl
    have hp1 := x.pos
    have hp2 := y.pos
    have g2l : (o ++ x.lay b).length = (b + x.cnt) * 5 := by rw [g1.len]; congr 1; omega
    obtain ⟨g2, t2⟩ := got hy g2l
    rw [List.append_assoc] at g2 t2
    have g1' : Forest (o ++ x.lay b) b (b + x.cnt) [((b + x.cnt - 1 : Nat) : Int)] := by have := g1.forest; rwa [show b + x.cnt - 1 + 1 = b + x.cnt by omega] at this
    have t1' : IsRE (o ++ (x.lay b ++ y.lay (b + x.cnt))) (b + x.cnt - 1) x := by rw [← List.append_assoc]; exact t1.ext (by rw [g1.len]; omega)
    have hlen : (o ++ (x.lay b ++ y.lay (b + x.cnt))).length = (b + x.cnt + y.cnt) * 5 := by rw [g2.len]; congr 1; omega
    have hf := Got.to (o2 := o) g1' (o := o ++ x.lay b) (by exact g2)
    rw [show b + x.cnt + y.cnt - 1 + 1 = b + x.cnt + y.cnt by omega] at hf
    rw [RS.lay, ← List.append_assoc, RS.cnt, show b + (x.cnt + y.cnt + 1) - 1 = b + x.cnt + y.cnt by omega]
    refine ⟨got_node (rs := [((b + x.cnt - 1 : Nat) : Int), ((b + x.cnt + y.cnt - 1 : Nat) : Int)]) ⟨_, rfl⟩ hf hlen rfl (by omega) (by omega) (by omega) ?_, ?_⟩
    · intro q z hz
      match q, hz with
      | 0, hz => cases hz; exact ⟨by omega, by rw [Int.toNat_natCast, decide_eq_true t1'.is.kind]; decide⟩
      | 1, hz => cases hz; exact ⟨by omega, by rw [Int.toNat_natCast, decide_eq_false (by have := t2.is.kind; omega)]; decide⟩
    · exact .loop (new0 hlen) (new2 hlen) (new3 hlen) (by omega) (by omega) (t1'.ext (by rw [hlen]; omega)) (t2.ext (by rw [hlen]; omega))
  | ite e x y, h, o, b, hl => by
    obtain ⟨he, hx, hy⟩ := h
    obtain ⟨g0, t0⟩ := e.got he hl
    have hp0 := e.pos
    have hp1 := x.pos
    have hp2 := y.pos
    have g1l : (o ++ e.lay b).length = (b + e.cnt) * 5 := by rw [g0.len]; congr 1; omega
    obtain ⟨g1, t1⟩ := got hx g1l
    have g2l : ((o ++ e.lay b) ++ x.lay (b + e.cnt)).length = (b + e.cnt + x.cnt) * 5 := by rw [g1.len]; congr 1; omega
    obtain ⟨g2, t2⟩ := got hy g2l
    have g0' : Forest (o ++ e.lay b) b (b + e.cnt) [((b + e.cnt - 1 : Nat) : Int)] := by have := g0.forest; rwa [show b + e.cnt - 1 + 1 = b + e.cnt by omega] at this
    have hf1 := Got.to (o2 := o) g0' g1
    rw [show b + e.cnt + x.cnt - 1 + 1 = b + e.cnt + x.cnt by omega] at hf1
    have hf := Got.to (o2 := o) hf1 g2
    rw [show b + e.cnt + x.cnt + y.cnt - 1 + 1 = b + e.cnt + x.cnt + y.cnt by omega] at hf
    have hlen : (((o ++ e.lay b) ++ x.lay (b + e.cnt)) ++ y.lay (b + e.cnt + x.cnt)).length = (b + e.cnt + x.cnt + y.cnt) * 5 := by rw [g2.len]; congr 1; omega
    have t0' : IsRE (((o ++ e.lay b) ++ x.lay (b + e.cnt)) ++ y.lay (b + e.cnt + x.cnt)) (b + e.cnt - 1) e := (t0.ext (by rw [g0.len]; omega)).ext (by rw [g1.len]; omega)
    have t1' : IsRS (((o ++ e.lay b) ++ x.lay (b + e.cnt)) ++ y.lay (b + e.cnt + x.cnt)) (b + e.cnt + x.cnt - 1) x := t1.ext (by rw [g1.len]; omega)
    have hlay : o ++ (RS.ite e x y).lay b = (((o ++ e.lay b) ++ x.lay (b + e.cnt)) ++ y.lay (b + e.cnt + x.cnt)) ++ [8, 0, ((b + e.cnt - 1 : Nat) : Int), ((b + e.cnt + x.cnt - 1 : Nat) : Int), ((b + e.cnt + x.cnt + y.cnt - 1 : Nat) : Int)] := by
      rw [RS.lay]; simp only [List.append_assoc]
    rw [hlay, RS.cnt, show b + (e.cnt + x.cnt + y.cnt + 1) - 1 = b + e.cnt + x.cnt + y.cnt by omega]
    refine ⟨got_node (rs := [((b + e.cnt - 1 : Nat) : Int), ((b + e.cnt + x.cnt - 1 : Nat) : Int), ((b + e.cnt + x.cnt + y.cnt - 1 : Nat) : Int)]) ⟨e.lay b ++ (x.lay (b + e.cnt) ++ y.lay (b + e.cnt + x.cnt)), by simp only [List.append_assoc]⟩ hf hlen rfl (by omega) (by omega) (by omega) ?_, ?_⟩
    · intro q z hz
      match q, hz with
      | 0, hz => cases hz; exact ⟨by omega, by rw [Int.toNat_natCast, decide_eq_true t0'.is.kind]; decide⟩
      | 1, hz => cases hz; exact ⟨by omega, by rw [Int.toNat_natCast, decide_eq_false (by have := t1'.is.kind; omega)]; decide⟩
      | 2, hz => cases hz; exact ⟨by omega, by rw [Int.toNat_natCast, decide_eq_false (by have := t2.is.kind; omega)]; decide⟩
    · exact .ite (new0 hlen) (new2 hlen) (new3 hlen) (new4 hlen) (by omega) (by omega) (by omega) (t0'.ext (by rw [hlen]; omega)) (t1'.ext (by rw [hlen]; omega)) (t2.ext (by rw [hlen]; omega))
/-- Laid from the beginning: a right program. -/
theorem RS.code {r : RS} (h : r.ok) (h80 : r.cnt ≤ 80) : progCode (r.lay 0) r.cnt = 0 ∧ IsRS (r.lay 0) (r.cnt - 1) r := by
  obtain ⟨g, t⟩ := r.got h (o := []) (b := 0) rfl
  rw [List.nil_append, Nat.zero_add] at g t
  have hp := r.pos
  refine ⟨?_, t⟩
  have hf := g.forest
  obtain ⟨m, hm⟩ : ∃ m, r.cnt = m + 1 := ⟨r.cnt - 1, by omega⟩
  rw [hm] at hf t ⊢
  exact Forest.code hf (by omega) t.is.kind
end Go.Proofs.YtdgncngkalgknaaDoor
