/-
  A search by breadth finds the least of the shortest ways. Plain laws; no program of Go in sight.
-/
import Derived.Test.YtndeplakkhfmlaaDoorBase
namespace Go.Proofs.YtndeplakkhfmlaaDoor
set_option linter.unusedVariables false

/-- The first difference is a lesser one. -/
def lexLt : List Nat → List Nat → Prop
  | a :: p, b :: r => a < b ∨ a = b ∧ lexLt p r
  | [], _ => False
  | _ :: _, [] => False
theorem lexLt_irrefl : ∀ p : List Nat, ¬ lexLt p p
  | [], h => h
  | a :: p, h => by
    rcases h with h | ⟨_, h⟩
    · omega
    · exact lexLt_irrefl p h
theorem lexLt_trans : ∀ p r s : List Nat, lexLt p r → lexLt r s → lexLt p s
  | [], _, _, h, _ => h.elim
  | _ :: _, [], _, h, _ => h.elim
  | _ :: _, _ :: _, [], _, h => h.elim
  | a :: p, b :: r, c :: s, h, k => by
    rcases h with h | ⟨rfl, h⟩
    · rcases k with k | ⟨rfl, k⟩
      · exact .inl (by omega)
      · exact .inl h
    · rcases k with k | ⟨rfl, k⟩
      · exact .inl k
      · exact .inr ⟨rfl, lexLt_trans p r s h k⟩
theorem lexLt_append : ∀ (p r : List Nat) (x y : List Nat), lexLt p r → lexLt (p ++ x) (r ++ y)
  | [], _, _, _, h => h.elim
  | _ :: _, [], _, _, h => h.elim
  | a :: p, b :: r, x, y, h => by
    rcases h with h | ⟨rfl, h⟩
    · exact .inl h
    · exact .inr ⟨rfl, lexLt_append p r x y h⟩
theorem lexLt_last : ∀ (p : List Nat) {x y : Nat}, x < y → lexLt (p ++ [x]) (p ++ [y])
  | [], _, _, h => .inl h
  | a :: p, _, _, h => .inr ⟨rfl, lexLt_last p h⟩
theorem lexLt_total : ∀ p r : List Nat, p.length = r.length → p = r ∨ lexLt p r ∨ lexLt r p
  | [], [], _ => .inl rfl
  | [], _ :: _, h => by simp at h
  | _ :: _, [], h => by simp at h
  | a :: p, b :: r, h => by
    rcases Nat.lt_trichotomy a b with k | rfl | k
    · exact .inr (.inl (.inl k))
    · rcases lexLt_total p r (by simpa using h) with rfl | k | k
      · exact .inl rfl
      · exact .inr (.inl (.inr ⟨rfl, k⟩))
      · exact .inr (.inr (.inr ⟨rfl, k⟩))
    · exact .inr (.inr (.inl k))
/-- Shorter, or the least of as long ones. -/
def SL (p r : List Nat) : Prop := p.length < r.length ∨ p.length = r.length ∧ lexLt p r
def SLe (p r : List Nat) : Prop := p = r ∨ SL p r
theorem SL.irrefl (p : List Nat) : ¬ SL p p := fun h => h.elim (fun h => Nat.lt_irrefl _ h) (fun h => lexLt_irrefl p h.2)
theorem SL.trans {p r s : List Nat} (h : SL p r) (k : SL r s) : SL p s := by
  rcases h with h | ⟨h1, h2⟩
  · rcases k with k | ⟨k1, k2⟩
    · exact .inl (by omega)
    · exact .inl (by omega)
  · rcases k with k | ⟨k1, k2⟩
    · exact .inl (by omega)
    · exact .inr ⟨by omega, lexLt_trans _ _ _ h2 k2⟩
theorem SLe.refl (p : List Nat) : SLe p p := .inl rfl
theorem SL.le {p r : List Nat} (h : SL p r) : SLe p r := .inr h
theorem SLe.trans {p r s : List Nat} (h : SLe p r) (k : SLe r s) : SLe p s := by
  rcases h with rfl | h
  · exact k
  · rcases k with rfl | k
    · exact .inr h
    · exact .inr (h.trans k)
theorem SL.trans_le {p r s : List Nat} (h : SL p r) (k : SLe r s) : SL p s := by
  rcases k with rfl | k
  · exact h
  · exact h.trans k
theorem SLe.antisymm {p r : List Nat} (h : SLe p r) (k : SLe r p) : p = r := by
  rcases h with h | h
  · exact h
  · exact absurd (h.trans_le k) (SL.irrefl p)
theorem SL.total (p r : List Nat) : p = r ∨ SL p r ∨ SL r p := by
  rcases Nat.lt_trichotomy p.length r.length with h | h | h
  · exact .inr (.inl (.inl h))
  · rcases lexLt_total p r h with k | k | k
    · exact .inl k
    · exact .inr (.inl (.inr ⟨h, k⟩))
    · exact .inr (.inr (.inr ⟨h.symm, k⟩))
  · exact .inr (.inr (.inl h))
theorem SL.push {p r : List Nat} (h : SL p r) (x y : Nat) : SL (p ++ [x]) (r ++ [y]) := by
  rcases h with h | ⟨h1, h2⟩
  · exact .inl (by simp; omega)
  · exact .inr ⟨by simp [h1], lexLt_append _ _ _ _ h2⟩
theorem SLe.push {p r : List Nat} (h : SLe p r) (x : Nat) : SLe (p ++ [x]) (r ++ [x]) := by
  rcases h with rfl | h
  · exact .inl rfl
  · exact .inr (h.push x x)
theorem SL.last (p : List Nat) {x y : Nat} (h : x < y) : SL (p ++ [x]) (p ++ [y]) := .inr ⟨by simp, lexLt_last p h⟩
theorem SL.more (p : List Nat) (x : Nat) : SL p (p ++ [x]) := .inl (by simp)
theorem SLe.length {p r : List Nat} (h : SLe p r) : p.length ≤ r.length := by
  rcases h with rfl | h | h
  · exact Nat.le_refl _
  · omega
  · omega

/-- The ways from one thing on, of which the last thing is told. -/
inductive WayTo (E : Nat → Nat → Prop) (a : Nat) : List Nat → Nat → Prop where
  | start : WayTo E a [a] a
  | more {p : List Nat} {z x : Nat} : WayTo E a p z → E z x → WayTo E a (p ++ [x]) x
theorem WayTo.pos {E : Nat → Nat → Prop} {a : Nat} {p : List Nat} {x : Nat} (h : WayTo E a p x) : 0 < p.length := by
  cases h <;> simp
theorem WayTo.head {E : Nat → Nat → Prop} {a : Nat} {p : List Nat} {x : Nat} (h : WayTo E a p x) : p.getD 0 0 = a := by
  induction h with
  | start => rfl
  | @more p z x h e ih =>
    have := h.pos
    rw [List.getD_eq_getElem?_getD, List.getElem?_append_left this, ← List.getD_eq_getElem?_getD]; exact ih
theorem WayTo.last {E : Nat → Nat → Prop} {a : Nat} {p : List Nat} {x : Nat} (h : WayTo E a p x) : p.getD (p.length - 1) 0 = x := by
  cases h with
  | start => rfl
  | more h e => simp
theorem WayTo.step {E : Nat → Nat → Prop} {a : Nat} {p : List Nat} {x : Nat} (h : WayTo E a p x) : ∀ i, i + 1 < p.length → E (p.getD i 0) (p.getD (i + 1) 0) := by
  induction h with
  | start => intro i hi; simp at hi
  | @more p z x h e ih =>
    intro i hi
    rw [List.length_append, List.length_singleton] at hi
    rw [List.getD_eq_getElem?_getD, List.getD_eq_getElem?_getD, List.getElem?_append_left (by omega)]
    rcases Nat.lt_or_ge (i + 1) p.length with h1 | h1
    · rw [List.getElem?_append_left h1, ← List.getD_eq_getElem?_getD, ← List.getD_eq_getElem?_getD]; exact ih i h1
    · have hi2 : i = p.length - 1 := by omega
      rw [← List.getD_eq_getElem?_getD, hi2, h.last, show p.length - 1 + 1 = p.length by omega]
      simpa using e

/-- What a search by breadth has found behind at turns, with all below dn of the next one: the things, from where, and the ways. -/
structure Bfs (E : Nat → Nat → Prop) (a at_ dn : Nat) (q : List Nat) (fr : List Int) (ps : List (List Nat)) : Prop where
  lf : fr.length = q.length
  lp : ps.length = q.length
  pos : 0 < q.length
  q0 : q.getD 0 0 = a
  f0 : fr.getD 0 0 = -1
  p0 : ps.getD 0 [] = [a]
  nodup : q.Nodup
  parent : ∀ i, 0 < i → i < q.length → ∃ u, u < i ∧ E (q.getD u 0) (q.getD i 0) ∧ fr.getD i 0 = (u : Int) ∧ ps.getD i [] = ps.getD u [] ++ [q.getD i 0] ∧ (u < at_ ∨ u = at_ ∧ q.getD i 0 < dn)
  rise : ∀ i j, i < j → j < q.length → SL (ps.getD i []) (ps.getD j [])
  closed : ∀ i y, i < q.length → E (q.getD i 0) y → (i < at_ ∨ i = at_ ∧ y < dn) → ∃ j, j < q.length ∧ q.getD j 0 = y ∧ SLe (ps.getD j []) (ps.getD i [] ++ [y])
section
variable {E : Nat → Nat → Prop} {a at_ dn : Nat} {q : List Nat} {fr : List Int} {ps : List (List Nat)}
theorem Bfs.start (E : Nat → Nat → Prop) (a : Nat) : Bfs E a 0 0 [a] [-1] [[a]] where
  lf := rfl
  lp := rfl
  pos := by simp
  q0 := rfl
  f0 := rfl
  p0 := rfl
  nodup := by simp
  parent := fun i h1 h2 => by simp at h2; omega
  rise := fun i j h1 h2 => by simp at h2; omega
  closed := fun i y h1 h2 h3 => by omega
theorem getD_push {α : Type} (l : List α) (x d : α) {i : Nat} (h : i < l.length) : (l ++ [x]).getD i d = l.getD i d := by
  rw [List.getD_eq_getElem?_getD, List.getElem?_append_left h, ← List.getD_eq_getElem?_getD]
theorem getD_pushed {α : Type} (l : List α) (x d : α) : (l ++ [x]).getD l.length d = x := by simp
theorem getD_pushed' {α : Type} (l : List α) (x d : α) {i : Nat} (h : i = l.length) : (l ++ [x]).getD i d = x := by subst h; exact getD_pushed l x d
theorem mem_getD {l : List Nat} {x : Nat} (h : x ∈ l) : ∃ i, i < l.length ∧ l.getD i 0 = x := by
  obtain ⟨i, hi, e⟩ := List.getElem_of_mem h
  exact ⟨i, hi, by rw [List.getD_eq_getElem?_getD, List.getElem?_eq_getElem hi]; exact e⟩
theorem getD_mem {l : List Nat} {i : Nat} (h : i < l.length) : l.getD i 0 ∈ l := by
  rw [List.getD_eq_getElem?_getD, List.getElem?_eq_getElem h]; exact List.getElem_mem h
/-- A thing that is no neighbour. -/
theorem Bfs.skip (h : Bfs E a at_ dn q fr ps) (hn : ¬ E (q.getD at_ 0) dn) : Bfs E a at_ (dn + 1) q fr ps :=
  { h with
    parent := fun i h1 h2 => by
      obtain ⟨u, k1, k2, k3, k4, k5⟩ := h.parent i h1 h2
      exact ⟨u, k1, k2, k3, k4, k5.elim .inl (fun k => .inr ⟨k.1, by omega⟩)⟩
    closed := fun i y h1 h2 h3 => by
      refine h.closed i y h1 h2 (h3.elim .inl fun k => .inr ⟨k.1, ?_⟩)
      rcases Nat.lt_or_ge y dn with h4 | h4
      · exact h4
      · obtain rfl : y = dn := by omega
        obtain ⟨rfl, _⟩ := k
        exact absurd h2 hn }
theorem Bfs.skips (h : Bfs E a at_ dn q fr ps) {m : Nat} (hm : dn ≤ m) (hn : ∀ y, dn ≤ y → y < m → ¬ E (q.getD at_ 0) y) : Bfs E a at_ m q fr ps := by
  induction m with
  | zero => obtain rfl : dn = 0 := by omega
            exact h
  | succ m ih =>
    rcases Nat.lt_or_ge dn (m + 1) with h1 | h1
    · exact (ih (by omega) fun y h2 h3 => hn y h2 (by omega)).skip (hn m (by omega) (by omega))
    · obtain rfl : dn = m + 1 := by omega
      exact h
/-- A neighbour that was found before. -/
theorem Bfs.had (h : Bfs E a at_ dn q fr ps) (hat : at_ < q.length) (hm : dn ∈ q) : Bfs E a at_ (dn + 1) q fr ps :=
  { h with
    parent := fun i h1 h2 => by
      obtain ⟨u, k1, k2, k3, k4, k5⟩ := h.parent i h1 h2
      exact ⟨u, k1, k2, k3, k4, k5.elim .inl (fun k => .inr ⟨k.1, by omega⟩)⟩
    closed := fun i y h1 h2 h3 => by
      by_cases h4 : i < at_ ∨ i = at_ ∧ y < dn
      · exact h.closed i y h1 h2 h4
      · obtain ⟨rfl, h5⟩ : i = at_ ∧ y = dn := by omega
        subst h5
        obtain ⟨j, j1, j2⟩ := mem_getD hm
        refine ⟨j, j1, j2, .inr ?_⟩
        rcases Nat.eq_zero_or_pos j with rfl | j3
        · rw [h.p0]
          refine .inl ?_
          have : 0 < (ps.getD i []).length := by
            rcases Nat.eq_zero_or_pos i with rfl | i3
            · rw [h.p0]; simp
            · obtain ⟨u, _, _, _, k4, _⟩ := h.parent i i3 h1
              rw [k4]; simp
          rw [List.length_append, List.length_singleton]; simp only [List.length_singleton]; omega
        · obtain ⟨u, k1, k2, k3, k4, k5⟩ := h.parent j j3 j1
          rw [k4, j2]
          rcases k5 with k5 | ⟨_, k5⟩
          · exact (h.rise u i k5 h1).push _ _
          · omega }
/-- A neighbour that is new. -/
theorem Bfs.found (h : Bfs E a at_ dn q fr ps) (hat : at_ < q.length) (hm : dn ∉ q) (he : E (q.getD at_ 0) dn) : Bfs E a at_ (dn + 1) (q ++ [dn]) (fr ++ [(at_ : Int)]) (ps ++ [ps.getD at_ [] ++ [dn]]) where
  lf := by simp [h.lf]
  lp := by simp [h.lp]
  pos := by simp
  q0 := by rw [getD_push _ _ _ h.pos]; exact h.q0
  f0 := by rw [getD_push _ _ _ (by rw [h.lf]; exact h.pos)]; exact h.f0
  p0 := by rw [getD_push _ _ _ (by rw [h.lp]; exact h.pos)]; exact h.p0
  nodup := by
    rw [List.nodup_append]
    refine ⟨h.nodup, by simp, fun x hx y hy => ?_⟩
    rw [List.mem_singleton] at hy
    subst hy
    rintro rfl
    exact hm hx
  parent := fun i h1 h2 => by
    rw [List.length_append, List.length_singleton] at h2
    rcases Nat.lt_or_ge i q.length with h3 | h3
    · obtain ⟨u, k1, k2, k3, k4, k5⟩ := h.parent i h1 h3
      refine ⟨u, k1, ?_, ?_, ?_, ?_⟩
      · rw [getD_push _ _ _ (by omega), getD_push _ _ _ h3]; exact k2
      · rw [getD_push _ _ _ (by rw [h.lf]; exact h3)]; exact k3
      · rw [getD_push _ _ _ (by rw [h.lp]; exact h3), getD_push _ _ _ (by rw [h.lp]; omega), getD_push _ _ _ h3]; exact k4
      · rw [getD_push _ _ _ h3]; exact k5.elim .inl (fun k => .inr ⟨k.1, by omega⟩)
    · have hi : i = q.length := by omega
      refine ⟨at_, by omega, ?_, ?_, ?_, ?_⟩
      · rw [getD_push _ _ _ hat, getD_pushed' _ _ _ hi]; exact he
      · rw [getD_pushed' _ _ _ (by rw [h.lf]; exact hi)]
      · rw [getD_pushed' _ _ _ (by rw [h.lp]; exact hi), getD_push _ _ _ (by rw [h.lp]; exact hat), getD_pushed' _ _ _ hi]
      · rw [getD_pushed' _ _ _ hi]; exact .inr ⟨rfl, by omega⟩
  rise := fun i j h1 h2 => by
    rw [List.length_append, List.length_singleton] at h2
    rcases Nat.lt_or_ge j q.length with h3 | h3
    · rw [getD_push _ _ _ (by rw [h.lp]; omega), getD_push _ _ _ (by rw [h.lp]; exact h3)]
      exact h.rise i j h1 h3
    · have hj : j = q.length := by omega
      rw [getD_pushed' ps _ _ (i := j) (by rw [h.lp]; exact hj), getD_push ps _ _ (i := i) (by rw [h.lp]; omega)]
      have hi : i < q.length := by omega
      rcases Nat.eq_zero_or_pos i with rfl | i3
      · rw [h.p0]
        refine .inl ?_
        have : 0 < (ps.getD at_ []).length := by
          rcases Nat.eq_zero_or_pos at_ with e | i3
          · rw [e, h.p0]; simp
          · obtain ⟨u, _, _, _, k4, _⟩ := h.parent at_ i3 hat
            rw [k4]; simp
        rw [List.length_append, List.length_singleton]; simp only [List.length_singleton]; omega
      · obtain ⟨u, k1, k2, k3, k4, k5⟩ := h.parent i i3 hi
        rw [k4]
        rcases k5 with k5 | ⟨rfl, k5⟩
        · exact (h.rise u at_ k5 hat).push _ _
        · exact SL.last _ k5
  closed := fun i y h1 h2 h3 => by
    rw [List.length_append, List.length_singleton] at h1
    rcases Nat.lt_or_ge i q.length with h5 | h5
    · rw [getD_push _ _ _ h5] at h2
      rw [getD_push _ _ _ (by rw [h.lp]; exact h5)]
      by_cases h4 : i < at_ ∨ i = at_ ∧ y < dn
      · obtain ⟨j, j1, j2, j3⟩ := h.closed i y h5 h2 h4
        exact ⟨j, by simp; omega, by rw [getD_push _ _ _ j1]; exact j2, by rw [getD_push _ _ _ (by rw [h.lp]; exact j1)]; exact j3⟩
      · obtain ⟨rfl, h6⟩ : i = at_ ∧ y = dn := by omega
        subst h6
        exact ⟨q.length, by simp, getD_pushed _ _ _, by rw [getD_pushed' _ _ _ h.lp.symm]; exact SLe.refl _⟩
    · omega
/-- All neighbours of one are done. -/
theorem Bfs.next (h : Bfs E a at_ dn q fr ps) (hn : ∀ y, dn ≤ y → ¬ E (q.getD at_ 0) y) : Bfs E a (at_ + 1) 0 q fr ps :=
  { h with
    parent := fun i h1 h2 => by
      obtain ⟨u, k1, k2, k3, k4, k5⟩ := h.parent i h1 h2
      exact ⟨u, k1, k2, k3, k4, .inl (by omega)⟩
    closed := fun i y h1 h2 h3 => by
      refine h.closed i y h1 h2 ?_
      rcases h3 with h3 | h3
      · rcases Nat.lt_or_ge i at_ with h4 | h4
        · exact .inl h4
        · obtain rfl : i = at_ := by omega
          refine .inr ⟨rfl, ?_⟩
          rcases Nat.lt_or_ge y dn with h5 | h5
          · exact h5
          · exact absurd h2 (hn y h5)
      · omega }
theorem Bfs.way (h : Bfs E a at_ dn q fr ps) : ∀ i, i < q.length → WayTo E a (ps.getD i []) (q.getD i 0) := by
  intro i
  induction i using Nat.strongRecOn with
  | _ i ih =>
    intro hi
    rcases Nat.eq_zero_or_pos i with rfl | i3
    · rw [h.p0, h.q0]; exact .start
    · obtain ⟨u, k1, k2, k3, k4, k5⟩ := h.parent i i3 hi
      rw [k4]
      exact .more (ih u k1 (by omega)) k2
/-- Each way there is ends at a thing that was found by a way no greater, or the next thing's way is no greater. -/
theorem Bfs.least (h : Bfs E a at_ 0 q fr ps) {p : List Nat} {x : Nat} (hw : WayTo E a p x) : (∃ i, i < q.length ∧ q.getD i 0 = x ∧ SLe (ps.getD i []) p) ∨ at_ < q.length ∧ SLe (ps.getD at_ []) p := by
  induction hw with
  | start => exact .inl ⟨0, h.pos, h.q0, by rw [h.p0]; exact SLe.refl _⟩
  | @more p z x hp he ih =>
    rcases ih with ⟨i, i1, i2, i3⟩ | ⟨h1, h2⟩
    · rcases Nat.lt_or_ge i at_ with i4 | i4
      · obtain ⟨j, j1, j2, j3⟩ := h.closed i x i1 (by rw [i2]; exact he) (.inl i4)
        exact .inl ⟨j, j1, j2, j3.trans (i3.push x)⟩
      · refine .inr ⟨by omega, SLe.trans ?_ (SL.more p x).le⟩
        rcases Nat.lt_or_ge at_ i with i5 | i5
        · exact (h.rise _ _ i5 i1).le.trans i3
        · obtain rfl : i = at_ := by omega
          exact i3
    · exact .inr ⟨h1, h2.trans (SL.more p x).le⟩
/-- The first one that is good has the least way to a good one. -/
theorem Bfs.first (h : Bfs E a at_ 0 q fr ps) (hat : at_ < q.length) {good : Nat → Prop} (hf : ∀ i, i < at_ → ¬ good (q.getD i 0)) {p : List Nat} {x : Nat} (hw : WayTo E a p x) (hx : good x) : SLe (ps.getD at_ []) p := by
  rcases h.least hw with ⟨i, i1, i2, i3⟩ | ⟨_, h2⟩
  · rcases Nat.lt_trichotomy at_ i with i5 | rfl | i5
    · exact (h.rise _ _ i5 i1).le.trans i3
    · exact i3
    · exact absurd (by rw [i2]; exact hx) (hf i i5)
  · exact h2
/-- Where all is done and none is good there is no way to a good one. -/
theorem Bfs.none (h : Bfs E a q.length 0 q fr ps) {good : Nat → Prop} (hf : ∀ i, i < q.length → ¬ good (q.getD i 0)) {p : List Nat} {x : Nat} (hw : WayTo E a p x) : ¬ good x := fun hx => by
  rcases h.least hw with ⟨i, i1, i2, _⟩ | ⟨h1, _⟩
  · exact hf i i1 (by rw [i2]; exact hx)
  · omega
theorem Bfs.lt {n : Nat} (h : Bfs E a at_ dn q fr ps) (ha : a < n) (hE : ∀ x y, E x y → y < n) : ∀ x ∈ q, x < n := fun x hx => by
  obtain ⟨i, hi, rfl⟩ := mem_getD hx
  rcases Nat.eq_zero_or_pos i with rfl | i3
  · rw [h.q0]; exact ha
  · obtain ⟨u, _, k2, _⟩ := h.parent i i3 hi
    exact hE _ _ k2
theorem nodup_le {n : Nat} : ∀ {q : List Nat}, q.Nodup → (∀ x ∈ q, x < n) → q.length ≤ n := by
  induction n with
  | zero =>
    intro q _ h
    cases q with
    | nil => simp
    | cons x q => exact absurd (h x (by simp)) (by omega)
  | succ n ih =>
    intro q hd h
    have h1 : (q.erase n).length ≤ n := ih (hd.erase n) fun x hx => by
      have h2 := (hd.mem_erase_iff).1 hx
      have := h x h2.2
      omega
    have h2 := List.length_erase (a := n) (l := q)
    split at h2
    · omega
    · omega
theorem Bfs.le {n : Nat} (h : Bfs E a at_ dn q fr ps) (ha : a < n) (hE : ∀ x y, E x y → y < n) : q.length ≤ n := nodup_le h.nodup (h.lt ha hE)
/-- Of a way back: the next one. -/
theorem Bfs.back (h : Bfs E a at_ dn q fr ps) {k : Nat} (hk : k < q.length) : (k = 0 ∧ fr.getD k 0 = -1 ∧ ps.getD k [] = [q.getD k 0]) ∨ ∃ u, u < k ∧ fr.getD k 0 = (u : Int) ∧ ps.getD k [] = ps.getD u [] ++ [q.getD k 0] := by
  rcases Nat.eq_zero_or_pos k with rfl | i3
  · exact .inl ⟨rfl, h.f0, by rw [h.p0, h.q0]⟩
  · obtain ⟨u, k1, k2, k3, k4, k5⟩ := h.parent k i3 hk
    exact .inr ⟨u, k1, k3, k4⟩
end
end Go.Proofs.YtndeplakkhfmlaaDoor
