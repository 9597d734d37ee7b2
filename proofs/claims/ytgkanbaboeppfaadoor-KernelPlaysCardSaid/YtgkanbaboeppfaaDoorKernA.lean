/-
  A kernel of parts as a value: a step, a run; and that parts which nothing leads to are kept apart. Plain laws; no program of Go in sight.
-/
import Derived.Test.YtgkanbaboeppfaaDoorBase
namespace Go.Proofs.YtgkanbaboeppfaaDoor
set_option linter.unusedVariables false

structure KOp where
  k : Int
  a : Int
  b : Int
/-- Where a part is, its registers, what it showed. -/
structure KPlace where
  pc : Nat
  regs : Nat → Int
  shown : List Int
structure KState where
  parts : Nat → KPlace
  held : Nat → List Int
def upd {α : Type} (f : Nat → α) (i : Nat) (x : α) : Nat → α := fun j => if j = i then x else f j
theorem upd_same {α : Type} (f : Nat → α) (i : Nat) (x : α) : upd f i x i = x := if_pos rfl
theorem upd_other {α : Type} (f : Nat → α) {i j : Nat} (x : α) (h : j ≠ i) : upd f i x j = f j := if_neg h
def KState.place (s : KState) (p : Nat) (x : KPlace) : KState := ⟨upd s.parts p x, s.held⟩
def KState.port (s : KState) (q : Nat) (l : List Int) : KState := ⟨s.parts, upd s.held q l⟩
/-- What an op makes. -/
def kdo (o : KOp) (p : Nat) (s : KState) : KState :=
  let x := s.parts p
  let n := x.pc + 1
  if o.k = 0 then s.place p ⟨n, upd x.regs o.a.toNat o.b, x.shown⟩
  else if o.k = 1 then s.place p ⟨n, upd x.regs o.a.toNat ((x.regs o.a.toNat + x.regs o.b.toNat) % 1000000), x.shown⟩
  else if o.k = 2 then (if (s.held o.b.toNat).length < 4 then s.port o.b.toNat (s.held o.b.toNat ++ [x.regs o.a.toNat]) else s).place p ⟨n, x.regs, x.shown⟩
  else if o.k = 3 then (match s.held o.b.toNat with
    | [] => s
    | m :: l => (s.port o.b.toNat l).place p ⟨n, upd x.regs o.a.toNat m, x.shown⟩)
  else if o.k = 4 then s.place p ⟨if x.regs o.b.toNat ≠ 0 then o.a.toNat else n, x.regs, x.shown⟩
  else if o.k = 5 then s.place p ⟨n, x.regs, x.shown ++ [x.regs o.a.toNat]⟩
  else s.place p ⟨n, x.regs, x.shown⟩
def kstep (ops : Nat → List KOp) (p : Nat) (s : KState) : KState :=
  match (ops p)[(s.parts p).pc]? with
  | none => s
  | some o => kdo o p s
/-- Some turns, one after another. -/
def kturns (ops : Nat → List KOp) (l : List Nat) (s : KState) : KState := l.foldl (fun s p => kstep ops p s) s
theorem kturns_append (ops : Nat → List KOp) (l m : List Nat) (s : KState) : kturns ops (l ++ m) s = kturns ops m (kturns ops l s) := by unfold kturns; rw [List.foldl_append]

section
variable {H : Nat → Prop} {to : Nat → Nat}
/-- The same, as far as nothing leads there. -/
def KAgree (H : Nat → Prop) (to : Nat → Nat) (s t : KState) : Prop := (∀ p, ¬ H p → s.parts p = t.parts p) ∧ ∀ q, ¬ H (to q) → s.held q = t.held q
theorem KAgree.refl (s : KState) : KAgree H to s s := ⟨fun _ _ => rfl, fun _ _ => rfl⟩
theorem KAgree.symm {s t : KState} (h : KAgree H to s t) : KAgree H to t s := ⟨fun p hp => (h.1 p hp).symm, fun q hq => (h.2 q hq).symm⟩
theorem KAgree.trans {s t u : KState} (h : KAgree H to s t) (k : KAgree H to t u) : KAgree H to s u := ⟨fun p hp => (h.1 p hp).trans (k.1 p hp), fun q hq => (h.2 q hq).trans (k.2 q hq)⟩
theorem agree_place {s t : KState} (h : KAgree H to s t) (p : Nat) {x y : KPlace} (hx : ¬ H p → x = y) : KAgree H to (s.place p x) (t.place p y) := by
  refine ⟨fun p' hp' => ?_, h.2⟩
  show upd _ _ _ _ = upd _ _ _ _
  unfold upd
  split
  · rename_i e; exact hx (e ▸ hp')
  · exact h.1 p' hp'
theorem agree_port {s t : KState} (h : KAgree H to s t) (q : Nat) {x y : List Int} (hx : ¬ H (to q) → x = y) : KAgree H to (s.port q x) (t.port q y) := by
  refine ⟨h.1, fun q' hq' => ?_⟩
  show upd _ _ _ _ = upd _ _ _ _
  unfold upd
  split
  · rename_i e; exact hx (e ▸ hq')
  · exact h.2 q' hq'
theorem place_still (s : KState) {p : Nat} (hp : H p) (x : KPlace) : KAgree H to s (s.place p x) := by
  refine ⟨fun p' hp' => ?_, fun _ _ => rfl⟩
  exact (upd_other s.parts x (fun e => hp' (by rw [e]; exact hp))).symm
theorem port_still (s : KState) {q : Nat} (hq : H (to q)) (l : List Int) : KAgree H to s (s.port q l) := by
  refine ⟨fun _ _ => rfl, fun q' hq' => ?_⟩
  exact (upd_other s.held l (fun e => hq' (by rw [e]; exact hq))).symm
/-- What a part does that leads nowhere else changes nothing elsewhere. -/
theorem kdo_still {o : KOp} {p : Nat} (hp : H p) (hs : o.k = 2 → H (to o.b.toNat)) (hg : o.k = 3 → to o.b.toNat = p) (s : KState) : KAgree H to s (kdo o p s) := by
  unfold kdo
  dsimp only
  split
  · exact place_still s hp _
  split
  · exact place_still s hp _
  split
  · rename_i e
    split
    · exact (port_still s (hs e) _).trans (place_still _ hp _)
    · exact place_still s hp _
  split
  · rename_i e
    split
    · exact KAgree.refl s
    · exact (port_still s (by rw [hg e]; exact hp) _).trans (place_still _ hp _)
  split
  · exact place_still s hp _
  split
  · exact place_still s hp _
  · exact place_still s hp _
/-- And a part that is alike in both does alike. -/
theorem kdo_alike {o : KOp} {p : Nat} (hp : ¬ H p) (hg : o.k = 3 → to o.b.toNat = p) {s t : KState} (h : KAgree H to s t) : KAgree H to (kdo o p s) (kdo o p t) := by
  have hx := h.1 p hp
  unfold kdo
  dsimp only
  rw [hx]
  split
  · exact agree_place h p (fun _ => rfl)
  split
  · exact agree_place h p (fun _ => rfl)
  split
  · refine agree_place ?_ p (fun _ => rfl)
    by_cases hq : H (to o.b.toNat)
    · have k1 : ∀ (z : KState) (l : List Int), KAgree H to z (if (z.held o.b.toNat).length < 4 then z.port o.b.toNat l else z) := fun z l => by
        split
        · exact port_still z hq l
        · exact KAgree.refl z
      exact ((k1 s _).symm.trans h).trans (k1 t _)
    · rw [h.2 _ hq]
      split
      · exact agree_port h _ (fun _ => rfl)
      · exact h
  split
  · rename_i e
    have hq : s.held o.b.toNat = t.held o.b.toNat := h.2 _ (by rw [hg e]; exact hp)
    rw [hq]
    split
    · exact h
    · exact agree_place (agree_port h _ (fun _ => rfl)) p (fun _ => rfl)
  split
  · exact agree_place h p (fun _ => rfl)
  split
  · exact agree_place h p (fun _ => rfl)
  · exact agree_place h p (fun _ => rfl)
/-- Each part sends only over its own ports, and gets only what is sent to it; and those in H send to none but H. -/
structure KFair (H : Nat → Prop) (to : Nat → Nat) (ops : Nat → List KOp) : Prop where
  send : ∀ p, H p → ∀ o ∈ ops p, o.k = 2 → H (to o.b.toNat)
  get : ∀ p, ∀ o ∈ ops p, o.k = 3 → to o.b.toNat = p
theorem kstep_agree {f g : Nat → List KOp} (hf : KFair H to f) (hg : KFair H to g) (he : ∀ p, ¬ H p → f p = g p) (p : Nat) {s t : KState} (h : KAgree H to s t) : KAgree H to (kstep f p s) (kstep g p t) := by
  by_cases hp : H p
  · have still : ∀ {f : Nat → List KOp}, KFair H to f → ∀ s, KAgree H to s (kstep f p s) := fun {f} hf s => by
      unfold kstep
      split
      · exact KAgree.refl s
      · rename_i o ho
        have hm := List.mem_of_getElem? ho
        exact kdo_still hp (hf.send p hp o hm) (hf.get p o hm) s
    exact ((still hf s).symm.trans h).trans (still hg t)
  · unfold kstep
    rw [he p hp, h.1 p hp]
    split
    · exact h
    · rename_i o ho
      exact kdo_alike hp (hg.get p o (List.mem_of_getElem? ho)) h
/-- RUSHBY: parts are kept apart. -/
theorem kturns_agree {f g : Nat → List KOp} (hf : KFair H to f) (hg : KFair H to g) (he : ∀ p, ¬ H p → f p = g p) (l : List Nat) : ∀ {s t : KState}, KAgree H to s t → KAgree H to (kturns f l s) (kturns g l t) := by
  induction l with
  | nil => intro s t h; exact h
  | cons p l ih => intro s t h; exact ih (kstep_agree hf hg he p h)
end

/-- What was shown stays shown, and a turn shows one more at most. -/
theorem kdo_shown (o : KOp) (p p' : Nat) (s : KState) : ∃ l, ((kdo o p s).parts p').shown = (s.parts p').shown ++ l ∧ l.length ≤ if p' = p then 1 else 0 := by
  have h1 : ∀ (z : KState) (x : KPlace), z.parts = s.parts → (∃ l, x.shown = (s.parts p).shown ++ l ∧ l.length ≤ 1) → ∃ l, ((z.place p x).parts p').shown = (s.parts p').shown ++ l ∧ l.length ≤ if p' = p then 1 else 0 := fun z x hz ⟨l, hl, hl1⟩ => by
    by_cases e : p' = p
    · subst e
      exact ⟨l, by show (upd z.parts p' x p').shown = _; rw [upd_same]; exact hl, by rw [if_pos rfl]; exact hl1⟩
    · refine ⟨[], ?_, by simp⟩
      show (upd z.parts p x p').shown = _
      rw [upd_other _ _ e, hz, List.append_nil]
  have h0 : ∃ l, (s.parts p).shown = (s.parts p).shown ++ l ∧ l.length ≤ 1 := ⟨[], by simp, by simp⟩
  unfold kdo
  dsimp only
  split
  · exact h1 _ _ rfl h0
  split
  · exact h1 _ _ rfl h0
  split
  · split
    · exact h1 _ _ rfl h0
    · exact h1 _ _ rfl h0
  split
  · split
    · exact ⟨[], by simp, by simp⟩
    · exact h1 _ _ rfl h0
  split
  · exact h1 _ _ rfl h0
  split
  · exact h1 _ _ rfl ⟨_, rfl, by simp⟩
  · exact h1 _ _ rfl h0
theorem kturns_shown (ops : Nat → List KOp) (p' : Nat) (l : List Nat) : ∀ s : KState, ∃ m, ((kturns ops l s).parts p').shown = (s.parts p').shown ++ m ∧ m.length ≤ l.count p' := by
  induction l with
  | nil => intro s; exact ⟨[], by simp [kturns], by simp⟩
  | cons p l ih =>
    intro s
    obtain ⟨m, h1, h2⟩ := ih (kstep ops p s)
    have hs : ∃ l, ((kstep ops p s).parts p').shown = (s.parts p').shown ++ l ∧ l.length ≤ if p' = p then 1 else 0 := by
      unfold kstep
      split
      · exact ⟨[], by simp, by simp⟩
      · exact kdo_shown _ p p' s
    obtain ⟨k, h3, h4⟩ := hs
    refine ⟨k ++ m, ?_, ?_⟩
    · show ((kturns ops l (kstep ops p s)).parts p').shown = _
      rw [h1, h3, List.append_assoc]
    · rw [List.length_append, List.count_cons]
      have : (if (p == p') = true then 1 else 0) = if p' = p then 1 else 0 := by
        by_cases e : p' = p
        · subst e; simp
        · have : ¬ p = p' := fun x => e x.symm
          simp [e, this]
      rw [this]; omega
end Go.Proofs.YtgkanbaboeppfaaDoor
