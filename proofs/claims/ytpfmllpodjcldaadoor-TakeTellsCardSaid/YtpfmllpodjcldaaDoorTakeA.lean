/-
  Graphs of rights: no step changes who is linked with whom, nor who can come to what. Plain laws; no program of Go in sight.
-/
import Derived.Test.YtpfmllpodjcldaaDoorClose
namespace Go.Proofs.YtpfmllpodjcldaaDoor
set_option linter.unusedVariables false

/-- Linked by steps of E. -/
inductive Link (E : Nat → Nat → Prop) : Nat → Nat → Prop where
  | refl (x : Nat) : Link E x x
  | tail {x y z : Nat} : Link E x y → E y z → Link E x z
section
variable {E F : Nat → Nat → Prop}
theorem Link.one {x y : Nat} (h : E x y) : Link E x y := .tail (.refl x) h
theorem Link.trans {x y z : Nat} (h : Link E x y) (k : Link E y z) : Link E x z := by
  induction k with
  | refl => exact h
  | tail _ e ih => exact .tail ih e
theorem Link.symm (hs : ∀ x y, E x y → E y x) {x y : Nat} (h : Link E x y) : Link E y x := by
  induction h with
  | refl => exact .refl _
  | tail _ e ih => exact (Link.one (hs _ _ e)).trans ih
theorem Link.lift (h : ∀ x y, E x y → Link F x y) {x y : Nat} (k : Link E x y) : Link F x y := by
  induction k with
  | refl => exact .refl _
  | tail _ e ih => exact ih.trans (h _ _ e)
end
/-- Holds the right to take, or to grant. -/
def Tg (r : Nat) : Prop := r.testBit 0 = true ∨ r.testBit 1 = true
theorem Tg.sub {a b : Nat} (h : Sub a b) (k : Tg a) : Tg b := k.elim (fun e => .inl (h _ e)) (fun e => .inr (h _ e))
theorem Tg.or {a b : Nat} (h : Tg (a ||| b)) : Tg a ∨ Tg b := by
  unfold Tg at h ⊢
  rw [tb_or, tb_or, Bool.or_eq_true, Bool.or_eq_true] at h
  rcases h with (h | h) | (h | h)
  · exact .inl (.inl h)
  · exact .inr (.inl h)
  · exact .inl (.inr h)
  · exact .inr (.inr h)
def Edge (g : Nat → Nat → Nat) (n x y : Nat) : Prop := x < n ∧ y < n ∧ (Tg (g x y) ∨ Tg (g y x))
theorem Edge.symm {g : Nat → Nat → Nat} {n x y : Nat} (h : Edge g n x y) : Edge g n y x := ⟨h.2.1, h.1, h.2.2.symm⟩
/-- One vertex can come to a right (bit k) over another one. -/
def CanGet (g : Nat → Nat → Nat) (n k who over : Nat) : Prop := ∃ x, x < n ∧ Link (Edge g n) who x ∧ (g x over).testBit k = true
/-- More rights of a over t. -/
def add2 (g : Nat → Nat → Nat) (a t r : Nat) : Nat → Nat → Nat := fun x y => if x = a ∧ y = t then g x y ||| r else g x y

section
variable {g : Nat → Nat → Nat} {n a t r fr : Nat}
theorem add_old (x y : Nat) : Sub (g x y) (add2 g a t r x y) := by
  unfold add2
  split
  · exact Sub.left _ _
  · exact Sub.refl _
theorem add_edge_old {x y : Nat} (h : Edge g n x y) : Edge (add2 g a t r) n x y := ⟨h.1, h.2.1, h.2.2.elim (fun e => .inl (e.sub (add_old x y))) (fun e => .inr (e.sub (add_old y x)))⟩
theorem add_half (hl : Link (Edge g n) a fr) (hf : fr < n) (hr : Sub r (g fr t)) {x y : Nat} (hx : x < n) (hy : y < n) (h : Tg (add2 g a t r x y)) : Link (Edge g n) x y := by
  unfold add2 at h
  split at h
  · rename_i e
    obtain ⟨rfl, rfl⟩ := e
    rcases h.or with h | h
    · exact .one ⟨hx, hy, .inl h⟩
    · exact .tail hl ⟨hf, hy, .inl (h.sub hr)⟩
  · exact .one ⟨hx, hy, .inl h⟩
theorem add_edge (hl : Link (Edge g n) a fr) (hf : fr < n) (hr : Sub r (g fr t)) (x y : Nat) (h : Edge (add2 g a t r) n x y) : Link (Edge g n) x y :=
  h.2.2.elim (fun e => add_half hl hf hr h.1 h.2.1 e) (fun e => (add_half hl hf hr h.2.1 h.1 e).symm fun _ _ e => e.symm)
/-- What is taken or granted changes nothing of who can. -/
theorem add_can (hl : Link (Edge g n) a fr) (hf : fr < n) (hr : Sub r (g fr t)) {k who over : Nat} : CanGet (add2 g a t r) n k who over ↔ CanGet g n k who over := by
  constructor
  · rintro ⟨x, hx, h1, h2⟩
    have h1 := h1.lift (add_edge hl hf hr)
    unfold add2 at h2
    split at h2
    · rename_i e
      obtain ⟨e1, e2⟩ := e
      rw [tb_or, Bool.or_eq_true] at h2
      rcases h2 with h2 | h2
      · exact ⟨x, hx, h1, h2⟩
      · exact ⟨fr, hf, (e1 ▸ h1 : Link (Edge g n) who a).trans hl, by rw [e2]; exact hr k h2⟩
    · exact ⟨x, hx, h1, h2⟩
  · rintro ⟨x, hx, h1, h2⟩
    exact ⟨x, hx, h1.lift fun x y h => .one (add_edge_old h), add_old x over k h2⟩

/-- A new vertex, over which one has all. -/
def newG (g : Nat → Nat → Nat) (n w : Nat) : Nat → Nat → Nat := fun x y => if y = n then (if x = w then 3 else 0) else if x = n then 0 else g x y
def back (n w z : Nat) : Nat := if z = n then w else z
variable {w : Nat}
theorem tg_zero : ¬ Tg 0 := by unfold Tg; simp
theorem new_half (hw : w < n) {x y : Nat} (hx : x < n + 1) (hy : y < n + 1) (h : Tg (newG g n w x y)) : Link (Edge g n) (back n w x) (back n w y) := by
  unfold newG at h
  unfold back
  by_cases hyn : y = n
  · rw [if_pos hyn] at h ⊢
    by_cases hxw : x = w
    · subst hxw
      rw [if_neg (by omega)]; exact .refl _
    · rw [if_neg hxw] at h; exact absurd h tg_zero
  · rw [if_neg hyn] at h ⊢
    by_cases hxn : x = n
    · rw [if_pos hxn] at h; exact absurd h tg_zero
    · rw [if_neg hxn] at h ⊢
      exact .one ⟨by omega, by omega, .inl h⟩
theorem new_link (hw : w < n) {x y : Nat} (h : Link (Edge (newG g n w) (n + 1)) x y) : Link (Edge g n) (back n w x) (back n w y) := by
  induction h with
  | refl => exact .refl _
  | tail _ e ih =>
    refine ih.trans ?_
    rcases e.2.2 with h | h
    · exact new_half hw e.1 e.2.1 h
    · exact (new_half hw e.2.1 e.1 h).symm fun _ _ e => e.symm
theorem new_old {x y : Nat} (hx : x < n) (hy : y < n) : newG g n w x y = g x y := by unfold newG; rw [if_neg (by omega), if_neg (by omega)]
/-- Nor does a new vertex. -/
theorem new_can (hw : w < n) {k who over : Nat} (hq : who < n) (ho : over < n) : CanGet (newG g n w) (n + 1) k who over ↔ CanGet g n k who over := by
  constructor
  · rintro ⟨x, hx, h1, h2⟩
    have h1 := new_link hw h1
    have hn : back n w who = who := by unfold back; rw [if_neg (by omega)]
    rw [hn] at h1
    by_cases hxn : x = n
    · unfold newG at h2
      rw [if_neg (by omega), if_pos hxn] at h2
      simp at h2
    · rw [new_old (by omega) ho] at h2
      have hn : back n w x = x := by unfold back; rw [if_neg hxn]
      rw [hn] at h1
      exact ⟨x, by omega, h1, h2⟩
  · rintro ⟨x, hx, h1, h2⟩
    exact ⟨x, by omega, h1.lift fun x y h => .one ⟨by have := h.1; omega, by have := h.2.1; omega, by rw [new_old h.1 h.2.1, new_old h.2.1 h.1]; exact h.2.2⟩, by rw [new_old hx ho]; exact h2⟩
/-- Who has it can. -/
theorem can_has {k who over : Nat} (hq : who < n) (h : (g who over).testBit k = true) : CanGet g n k who over := ⟨who, hq, .refl _, h⟩
/-- What holds one and all that are linked with what it holds holds all that are linked with that one. -/
theorem link_closed {S : Nat → Prop} {who : Nat} (h0 : S who) (hc : ∀ x y, S x → Edge g n x y → S y) {x : Nat} (h : Link (Edge g n) who x) : S x := by
  induction h with
  | refl => exact h0
  | tail _ e ih => exact hc _ _ ih e
/-- Where a search ends with nothing found, nobody can. -/
theorem can_none {S : Nat → Prop} {k who over : Nat} (h0 : S who) (hc : ∀ x y, S x → Edge g n x y → S y) (hn : ∀ x, S x → (g x over).testBit k = false) : ¬ CanGet g n k who over := fun ⟨x, _, h1, h2⟩ => by
  rw [hn x (link_closed h0 hc h1)] at h2; cases h2

/-- The steps that can be done. -/
inductive TStep : Nat × (Nat → Nat → Nat) → Nat × (Nat → Nat → Nat) → Prop where
  | fresh {n w : Nat} {g : Nat → Nat → Nat} : w < n → TStep (n, g) (n + 1, newG g n w)
  | take {n w f t r : Nat} {g : Nat → Nat → Nat} : w < n → f < n → (g w f).testBit 0 = true → Sub r (g f t) → TStep (n, g) (n, add2 g w t r)
  | grant {n w f t r : Nat} {g : Nat → Nat → Nat} : w < n → f < n → (g w f).testBit 1 = true → Sub r (g w t) → TStep (n, g) (n, add2 g f t r)
inductive TSteps : Nat × (Nat → Nat → Nat) → Nat × (Nat → Nat → Nat) → Prop where
  | none (s) : TSteps s s
  | more {s t u} : TSteps s t → TStep t u → TSteps s u
theorem TStep.can {s t : Nat × (Nat → Nat → Nat)} (h : TStep s t) : s.1 ≤ t.1 ∧ ∀ k who over, who < s.1 → over < s.1 → (CanGet t.2 t.1 k who over ↔ CanGet s.2 s.1 k who over) := by
  cases h with
  | fresh hw => exact ⟨Nat.le_succ _, fun k who over h1 h2 => new_can hw h1 h2⟩
  | take hw hf hg hr => exact ⟨Nat.le_refl _, fun k who over h1 h2 => add_can (.one ⟨hw, hf, .inl (.inl hg)⟩) hf hr⟩
  | grant hw hf hg hr => exact ⟨Nat.le_refl _, fun k who over h1 h2 => add_can (.one ⟨hf, hw, .inr (.inr hg)⟩) hw hr⟩
/-- Nothing that is done changes who can. -/
theorem TSteps.can {s t : Nat × (Nat → Nat → Nat)} (h : TSteps s t) : s.1 ≤ t.1 ∧ ∀ k who over, who < s.1 → over < s.1 → (CanGet t.2 t.1 k who over ↔ CanGet s.2 s.1 k who over) := by
  induction h with
  | none => exact ⟨Nat.le_refl _, fun _ _ _ _ _ => Iff.rfl⟩
  | more _ e ih => exact ⟨Nat.le_trans ih.1 e.can.1, fun k who over h1 h2 => (e.can.2 k who over (Nat.lt_of_lt_of_le h1 ih.1) (Nat.lt_of_lt_of_le h2 ih.1)).trans (ih.2 k who over h1 h2)⟩
/-- And who cannot, does not. -/
theorem TSteps.sound {s t : Nat × (Nat → Nat → Nat)} (h : TSteps s t) {k who over : Nat} (h1 : who < s.1) (h2 : over < s.1) (hk : (t.2 who over).testBit k = true) : CanGet s.2 s.1 k who over :=
  (h.can.2 k who over h1 h2).1 (can_has (Nat.lt_of_lt_of_le h1 h.can.1) hk)
end
end Go.Proofs.YtpfmllpodjcldaaDoor
