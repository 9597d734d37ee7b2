/-
  Programs as trees: what a value is, what a deed does, and what flows where. Plain laws; no program of Go in sight.
-/
import Derived.Test.YtfpghfmdkbdojaaGreatDoorBase
namespace Go.Proofs.YtfpghfmdkbdojaaGreatDoor
set_option linter.unusedVariables false

/-- A value of a little program. -/
inductive Ex where
  | num (n : Nat)
  | var (n : Nat)
  | op (k : Nat) (a b : Ex)
/-- A deed of a little program. -/
inductive St where
  | skip
  | set (n : Nat) (e : Ex)
  | both (a b : St)
  | ite (e : Ex) (a b : St)
  | loop (e : Ex) (a : St)

def opV (k x y : Nat) : Nat := if k = 2 then (x + y) % 1000000 else if k = 3 then (if x < y then 1 else 0) else if x = y then 1 else 0
def Ex.val : Ex → List Nat → Nat
  | num n, _ => n
  | var n, v => v.getD n 0
  | op k a b, v => opV k (a.val v) (b.val v)
def Ex.names : Ex → Nat
  | num _ => 0
  | var n => 2 ^ n
  | op _ a b => a.names ||| b.names
/-- All numbers and variables of a value are within their bounds. -/
def Ex.ok : Ex → Prop
  | num n => n ≤ 999999
  | var n => n < 6
  | op k a b => (2 ≤ k ∧ k ≤ 4) ∧ a.ok ∧ b.ok
def St.ok : St → Prop
  | skip => True
  | set n e => n < 6 ∧ e.ok
  | both a b => a.ok ∧ b.ok
  | ite e a b => e.ok ∧ a.ok ∧ b.ok
  | loop e a => e.ok ∧ a.ok

/-- A loop, at most so many times. -/
def spin (c : List Nat → Nat) (f : List Nat → Nat → Option (List Nat × Nat)) : Nat → List Nat → Nat → Option (List Nat × Nat)
  | 0, _, _ => none
  | k + 1, v, n => if n = 0 then none else if c v = 0 then some (v, n - 1) else match f v (n - 1) with
    | none => none
    | some (v', n') => spin c f k v' n'
def St.run : St → List Nat → Nat → Option (List Nat × Nat)
  | skip, v, n => some (v, n)
  | set x e, v, n => if n = 0 then none else some (v.set x (e.val v), n - 1)
  | both a b, v, n => match a.run v n with
    | none => none
    | some (v', n') => b.run v' n'
  | ite e a b, v, n => if n = 0 then none else if e.val v ≠ 0 then a.run v (n - 1) else b.run v (n - 1)
  | loop e a, v, n => spin e.val a.run (n + 1) v n
/-- Each setting: the variable, and what flows into it. -/
def St.sets : St → Nat → List (Nat × Nat)
  | skip, _ => []
  | set x e, u => [(x, u ||| e.names)]
  | both a b, u => a.sets u ++ b.sets u
  | ite e a b, u => a.sets (u ||| e.names) ++ b.sets (u ||| e.names)
  | loop e a, u => a.sets (u ||| e.names)

theorem opV_le (k x y : Nat) (hx : x ≤ 999999) : opV k x y ≤ 999999 := by
  unfold opV
  split
  · have := Nat.mod_lt (x + y) (show 1000000 > 0 by decide); omega
  · split <;> split <;> omega
/-- Variables: six, within their bounds. -/
def Vars (v : List Nat) : Prop := v.length = 6 ∧ ∀ i, v.getD i 0 ≤ 999999
theorem Ex.val_le {e : Ex} (h : e.ok) {v : List Nat} (hv : Vars v) : e.val v ≤ 999999 := by
  induction e with
  | num n => exact h
  | var n => exact hv.2 n
  | op k a b iha ihb => exact opV_le _ _ _ (iha h.2.1)
theorem getD_set {v : List Nat} {x y i : Nat} : (v.set x y).getD i 0 = if i = x ∧ x < v.length then y else v.getD i 0 := by
  simp only [List.getD_eq_getElem?_getD, List.getElem?_set]
  by_cases h : x = i
  · subst h
    by_cases h2 : x < v.length
    · simp [h2]
    · simp [h2]
  · have : ¬ (i = x) := fun e => h e.symm
    simp [h, this]
theorem Vars.set {v : List Nat} (h : Vars v) {x y : Nat} (hy : y ≤ 999999) : Vars (v.set x y) := by
  refine ⟨by simp [h.1], fun i => ?_⟩
  rw [getD_set]
  split
  · exact hy
  · exact h.2 i

theorem spin_left {c : List Nat → Nat} {f : List Nat → Nat → Option (List Nat × Nat)} (hf : ∀ v n v' n', f v n = some (v', n') → n' ≤ n) : ∀ k v n v' n', spin c f k v n = some (v', n') → n' < n
  | 0, v, n, v', n', h => by simp [spin] at h
  | k + 1, v, n, v', n', h => by
    rw [spin] at h
    split at h
    · cases h
    · split at h
      · injection h with h; injection h with h1 h2; omega
      · split at h
        · cases h
        · rename_i v1 n1 h1
          have := hf _ _ _ _ h1
          have := spin_left hf k _ _ _ _ h
          omega
theorem St.left {s : St} : ∀ v n v' n', s.run v n = some (v', n') → n' ≤ n := by
  induction s with
  | skip => intro v n v' n' h; rw [St.run] at h; injection h with h; injection h with h1 h2; omega
  | set x e =>
    intro v n v' n' h; rw [St.run] at h
    split at h
    · cases h
    · injection h with h; injection h with h1 h2; omega
  | both a b iha ihb =>
    intro v n v' n' h; rw [St.run] at h
    split at h
    · cases h
    · rename_i h1; have := iha _ _ _ _ h1; have := ihb _ _ _ _ h; omega
  | ite e a b iha ihb =>
    intro v n v' n' h; rw [St.run] at h
    split at h
    · cases h
    · split at h
      · have := iha _ _ _ _ h; omega
      · have := ihb _ _ _ _ h; omega
  | loop e a iha =>
    intro v n v' n' h; rw [St.run] at h
    have := spin_left iha _ _ _ _ _ h; omega
/-- More rounds than fuel change nothing. -/
theorem spin_more {c : List Nat → Nat} {f : List Nat → Nat → Option (List Nat × Nat)} (hf : ∀ v n v' n', f v n = some (v', n') → n' ≤ n) : ∀ k m v n, n < k → n < m → spin c f k v n = spin c f m v n
  | 0, m, v, n, h, h' => by omega
  | k + 1, 0, v, n, h, h' => by omega
  | k + 1, m + 1, v, n, h, h' => by
    rw [spin, spin]
    split
    · rfl
    · split
      · rfl
      · cases h1 : f v (n - 1) with
        | none => rfl
        | some q =>
          obtain ⟨v1, n1⟩ := q
          have := hf _ _ _ _ h1
          exact spin_more hf k m v1 n1 (by omega) (by omega)
theorem St.run_loop (e : Ex) (a : St) (v : List Nat) (n : Nat) : (St.loop e a).run v n = if n = 0 then none else if e.val v = 0 then some (v, n - 1) else match a.run v (n - 1) with
    | none => none
    | some (v', n') => (St.loop e a).run v' n' := by
  show spin e.val a.run (n + 1) v n = _
  rw [spin]
  split
  · rfl
  · split
    · rfl
    · cases h1 : a.run v (n - 1) with
      | none => rfl
      | some q =>
        obtain ⟨v1, n1⟩ := q
        have := St.left _ _ _ _ h1
        exact spin_more (fun v n v' n' h => St.left v n v' n' h) _ _ _ _ (by omega) (by omega)

theorem spin_inv {c : List Nat → Nat} {f : List Nat → Nat → Option (List Nat × Nat)} {R : List Nat → Prop} (hf : ∀ v n v' n', f v n = some (v', n') → R v → R v') : ∀ k v n v' n', spin c f k v n = some (v', n') → R v → R v'
  | 0, v, n, v', n', h, hv => by simp [spin] at h
  | k + 1, v, n, v', n', h, hv => by
    rw [spin] at h
    split at h
    · cases h
    · split at h
      · injection h with h; injection h with h1 h2; subst h1; exact hv
      · split at h
        · cases h
        · rename_i v1 n1 h1
          exact spin_inv hf k _ _ _ _ h (hf _ _ _ _ h1 hv)
/-- What is set keeps what every setting keeps. -/
theorem St.inv {R : List Nat → Prop} {s : St} (u : Nat) (hR : ∀ x e v, (∃ f, (x, f) ∈ s.sets u) → R v → (∃ w, e = Ex.val w v ∧ w.ok) → R (v.set x e)) (hs : s.ok) : ∀ v n v' n', s.run v n = some (v', n') → R v → R v' := by
  induction s generalizing u with
  | skip => intro v n v' n' h hv; rw [St.run] at h; injection h with h; injection h with h1 h2; subst h1; exact hv
  | set x e =>
    intro v n v' n' h hv; rw [St.run] at h
    split at h
    · cases h
    · injection h with h; injection h with h1 h2; subst h1; exact hR x _ v ⟨_, List.mem_singleton.2 rfl⟩ hv ⟨e, rfl, hs.2⟩
  | both a b iha ihb =>
    intro v n v' n' h hv; rw [St.run] at h
    split at h
    · cases h
    · rename_i h1
      exact ihb u (fun x e v ⟨f, hf⟩ => hR x e v ⟨f, List.mem_append.2 (.inr hf)⟩) hs.2 _ _ _ _ h (iha u (fun x e v ⟨f, hf⟩ => hR x e v ⟨f, List.mem_append.2 (.inl hf)⟩) hs.1 _ _ _ _ h1 hv)
  | ite e a b iha ihb =>
    intro v n v' n' h hv; rw [St.run] at h
    split at h
    · cases h
    · split at h
      · exact iha _ (fun x e v ⟨f, hf⟩ => hR x e v ⟨f, List.mem_append.2 (.inl hf)⟩) hs.2.1 _ _ _ _ h hv
      · exact ihb _ (fun x e v ⟨f, hf⟩ => hR x e v ⟨f, List.mem_append.2 (.inr hf)⟩) hs.2.2 _ _ _ _ h hv
  | loop e a iha =>
    intro v n v' n' h hv; rw [St.run] at h
    exact spin_inv (fun v n v' n' h hv => iha _ (fun x e v ⟨f, hf⟩ => hR x e v ⟨f, hf⟩) hs.2 _ _ _ _ h hv) _ _ _ _ _ h hv
theorem St.run_vars {s : St} (hs : s.ok) {v v' : List Nat} {n n' : Nat} (h : s.run v n = some (v', n')) (hv : Vars v) : Vars v' :=
  St.inv 0 (R := Vars) (fun x e v _ hv ⟨w, he, hw⟩ => hv.set (he ▸ w.val_le hw hv)) hs v n v' n' h hv

section
variable {low : Nat → Prop}
/-- What flows into what is low is low. -/
def Okay (low : Nat → Prop) (l : List (Nat × Nat)) : Prop := ∀ p ∈ l, low p.1 → ∀ j, p.2.testBit j = true → low j
/-- The same, as far as is low. -/
def Same (low : Nat → Prop) (v w : List Nat) : Prop := v.length = w.length ∧ ∀ i, low i → v.getD i 0 = w.getD i 0
theorem Same.refl (v : List Nat) : Same low v v := ⟨rfl, fun _ _ => rfl⟩
theorem Same.symm {v w : List Nat} (h : Same low v w) : Same low w v := ⟨h.1.symm, fun i hi => (h.2 i hi).symm⟩
theorem Same.trans {v w x : List Nat} (h : Same low v w) (k : Same low w x) : Same low v x := ⟨h.1.trans k.1, fun i hi => (h.2 i hi).trans (k.2 i hi)⟩
theorem Same.set {v w : List Nat} (h : Same low v w) (x : Nat) {y z : Nat} (hy : low x → y = z) : Same low (v.set x y) (w.set x z) := by
  refine ⟨by simp [h.1], fun i hi => ?_⟩
  rw [getD_set, getD_set, h.1]
  by_cases hx : i = x ∧ x < w.length
  · rw [if_pos hx, if_pos hx]; exact hy (hx.1 ▸ hi)
  · rw [if_neg hx, if_neg hx]; exact h.2 i hi
theorem Same.set1 {v : List Nat} {x : Nat} (hx : ¬ low x) (y : Nat) : Same low v (v.set x y) := by
  refine ⟨by simp, fun i hi => ?_⟩
  rw [getD_set, if_neg (fun (e : i = x ∧ x < v.length) => hx (e.1 ▸ hi))]
theorem Ex.val_same {e : Ex} {v w : List Nat} (h : Same low v w) (hl : ∀ j, e.names.testBit j = true → low j) : e.val v = e.val w := by
  induction e with
  | num n => rfl
  | var n => exact h.2 n (hl n (by simp [Ex.names]))
  | op k a b iha ihb =>
    have h1 := iha fun j hj => hl j (by simp [Ex.names, hj])
    have h2 := ihb fun j hj => hl j (by simp [Ex.names, hj])
    simp only [Ex.val, h1, h2]
theorem sets_under {s : St} : ∀ {u : Nat} {p : Nat × Nat}, p ∈ s.sets u → ∀ j, u.testBit j = true → p.2.testBit j = true := by
  induction s with
  | skip => intro u p hp; simp [St.sets] at hp
  | set x e => intro u p hp j hj; simp [St.sets] at hp; subst hp; simp [hj]
  | both a b iha ihb => intro u p hp j hj; simp only [St.sets, List.mem_append] at hp; exact hp.elim (fun h => iha h j hj) (fun h => ihb h j hj)
  | ite e a b iha ihb => intro u p hp j hj; simp only [St.sets, List.mem_append] at hp; exact hp.elim (fun h => iha h j (by simp [hj])) (fun h => ihb h j (by simp [hj]))
  | loop e a iha => intro u p hp j hj; exact iha hp j (by simp [hj])
/-- Under what is not low nothing low is set. -/
theorem high_still {s : St} (hs : s.ok) {u j : Nat} (hu : u.testBit j = true) (hj : ¬ low j) (hok : Okay low (s.sets u)) {v v' : List Nat} {n n' : Nat} (h : s.run v n = some (v', n')) : Same low v v' :=
  St.inv (R := fun x => Same low v x) u (fun x e w ⟨f, hf⟩ hw _ => hw.trans (Same.set1 (fun hx => hj (hok _ hf hx j (sets_under hf j hu))) e)) hs v n v' n' h (Same.refl v)
theorem spin_high {c : List Nat → Nat} {f : List Nat → Nat → Option (List Nat × Nat)} (hf : ∀ v n v' n', f v n = some (v', n') → Same low v v') (k : Nat) (v : List Nat) (n : Nat) (v' : List Nat) (n' : Nat) (h : spin c f k v n = some (v', n')) : Same low v v' :=
  spin_inv (R := fun x => Same low v x) (fun a m a' m' h1 h2 => h2.trans (hf a m a' m' h1)) k v n v' n' h (Same.refl v)
theorem spin_same {e : Ex} {f : List Nat → Nat → Option (List Nat × Nat)} (he : ∀ j, e.names.testBit j = true → low j)
    (hf : ∀ v w n m v' n' w' m', f v n = some (v', n') → f w m = some (w', m') → Same low v w → Same low v' w') : ∀ k k' v w n m v' n' w' m', spin e.val f k v n = some (v', n') → spin e.val f k' w m = some (w', m') → Same low v w → Same low v' w'
  | 0, k', v, w, n, m, v', n', w', m', h, h', hs => by simp [spin] at h
  | k + 1, 0, v, w, n, m, v', n', w', m', h, h', hs => by simp [spin] at h'
  | k + 1, k' + 1, v, w, n, m, v', n', w', m', h, h', hs => by
    rw [spin] at h h'
    have hv := Ex.val_same hs he
    rw [← hv] at h'
    split at h
    · cases h
    · split at h'
      · cases h'
      · split at h
        · rename_i h0
          rw [if_pos h0] at h'
          injection h with h; injection h with h1 h2
          injection h' with h'; injection h' with h3 h4
          subst h1; subst h3; exact hs
        · rename_i h0
          rw [if_neg h0] at h'
          split at h
          · cases h
          · split at h'
            · cases h'
            · rename_i h1 _ _ _ h2
              exact spin_same he hf k k' _ _ _ _ _ _ _ _ h h' (hf _ _ _ _ _ _ _ _ h1 h2 hs)
/-- What fits does not leak. -/
theorem quiet {s : St} (hs : s.ok) {u : Nat} (hok : Okay low (s.sets u)) {v w v' w' : List Nat} {n m n' m' : Nat} (h1 : s.run v n = some (v', n')) (h2 : s.run w m = some (w', m')) (h : Same low v w) : Same low v' w' := by
  induction s generalizing u v w v' w' n m n' m' with
  | skip =>
    rw [St.run] at h1 h2
    injection h1 with h1; injection h1 with a1 a2; injection h2 with h2; injection h2 with b1 b2
    subst a1; subst b1; exact h
  | set x e =>
    rw [St.run] at h1 h2
    split at h1
    · cases h1
    · split at h2
      · cases h2
      · injection h1 with h1; injection h1 with a1 a2; injection h2 with h2; injection h2 with b1 b2
        subst a1; subst b1
        refine h.set x fun hx => Ex.val_same h fun j hj => hok _ (List.mem_singleton.2 rfl) hx j ?_
        simp [hj]
  | both a b iha ihb =>
    rw [St.run] at h1 h2
    split at h1
    · cases h1
    · split at h2
      · cases h2
      · rename_i g1 _ _ _ g2
        have ha : Okay low (a.sets u) := fun p hp => hok p (List.mem_append.2 (.inl hp))
        have hb : Okay low (b.sets u) := fun p hp => hok p (List.mem_append.2 (.inr hp))
        exact ihb hs.2 hb h1 h2 (iha hs.1 ha g1 g2 h)
  | ite e a b iha ihb =>
    have ha : Okay low (a.sets (u ||| e.names)) := fun p hp => hok p (List.mem_append.2 (.inl hp))
    have hb : Okay low (b.sets (u ||| e.names)) := fun p hp => hok p (List.mem_append.2 (.inr hp))
    rw [St.run] at h1 h2
    split at h1
    · cases h1
    · split at h2
      · cases h2
      · by_cases he : ∀ j, e.names.testBit j = true → low j
        · rw [← Ex.val_same h he] at h2
          split at h1
          · rename_i h0; rw [if_pos h0] at h2; exact iha hs.2.1 ha h1 h2 h
          · rename_i h0; rw [if_neg h0] at h2; exact ihb hs.2.2 hb h1 h2 h
        · have ⟨j, hj⟩ := Classical.not_forall.1 he
          have hj1 : e.names.testBit j = true := Classical.byContradiction fun x => hj fun y => absurd y x
          have hj2 : ¬ low j := fun x => hj fun _ => x
          have hu : (u ||| e.names).testBit j = true := by simp [hj1]
          have k1 : Same low v v' := by
            split at h1
            · exact high_still hs.2.1 hu hj2 ha h1
            · exact high_still hs.2.2 hu hj2 hb h1
          have k2 : Same low w w' := by
            split at h2
            · exact high_still hs.2.1 hu hj2 ha h2
            · exact high_still hs.2.2 hu hj2 hb h2
          exact k1.symm.trans (h.trans k2)
  | loop e a iha =>
    rw [St.run] at h1 h2
    by_cases he : ∀ j, e.names.testBit j = true → low j
    · exact spin_same he (fun v w n m v' n' w' m' g1 g2 gs => iha hs.2 hok g1 g2 gs) _ _ _ _ _ _ _ _ _ _ h1 h2 h
    · have ⟨j, hj⟩ := Classical.not_forall.1 he
      have hj1 : e.names.testBit j = true := Classical.byContradiction fun x => hj fun y => absurd y x
      have hj2 : ¬ low j := fun x => hj fun _ => x
      have hu : (u ||| e.names).testBit j = true := by simp [hj1]
      have k1 := spin_high (fun v n v' n' g => high_still hs.2 hu hj2 hok g) _ _ _ _ _ h1
      have k2 := spin_high (fun v n v' n' g => high_still hs.2 hu hj2 hok g) _ _ _ _ _ h2
      exact k1.symm.trans (h.trans k2)
end
end Go.Proofs.YtfpghfmdkbdojaaGreatDoor
