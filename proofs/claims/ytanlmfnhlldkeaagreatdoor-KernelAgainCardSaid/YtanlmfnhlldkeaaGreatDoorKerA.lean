/-
  A kernel of parts as a value: a step, a run; and that parts which nothing leads to are kept apart. Plain laws; no program of Go in sight.
  A system of parts as lists: what is wrong with it; what of it is right. Plain laws; no program of Go in sight.
-/
import Derived.Test.YtanlmfnhlldkeaaGreatDoorBaseA
namespace Go.Proofs.YtanlmfnhlldkeaaGreatDoor
set_option linter.unusedVariables false

structure KOp where
  k : Int
  a : Int
  b : Int
/-- Where a part is, its registers, what it showed. -/
structure KPlace where
  pc : Nat
  regs : Nat → Int
  shown : List Int
structure KState where
  parts : Nat → KPlace
  held : Nat → List Int
def upd {α : Type} (f : Nat → α) (i : Nat) (x : α) : Nat → α := fun j => if j = i then x else f j
theorem upd_same {α : Type} (f : Nat → α) (i : Nat) (x : α) : upd f i x i = x := if_pos rfl
theorem upd_other {α : Type} (f : Nat → α) {i j : Nat} (x : α) (h : j ≠ i) : upd f i x j = f j := if_neg h
def KState.place (s : KState) (p : Nat) (x : KPlace) : KState := ⟨upd s.parts p x, s.held⟩
def KState.port (s : KState) (q : Nat) (l : List Int) : KState := ⟨s.parts, upd s.held q l⟩
/-- What an op makes. -/
def kdo (o : KOp) (p : Nat) (s : KState) : KState :=
  let x := s.parts p
  let n := x.pc + 1
  if o.k = 0 then s.place p ⟨n, upd x.regs o.a.toNat o.b, x.shown⟩
  else if o.k = 1 then s.place p ⟨n, upd x.regs o.a.toNat ((x.regs o.a.toNat + x.regs o.b.toNat) % 1000000), x.shown⟩
  else if o.k = 2 then (if (s.held o.b.toNat).length < 4 then s.port o.b.toNat (s.held o.b.toNat ++ [x.regs o.a.toNat]) else s).place p ⟨n, x.regs, x.shown⟩
  else if o.k = 3 then (match s.held o.b.toNat with
    | [] => s
    | m :: l => (s.port o.b.toNat l).place p ⟨n, upd x.regs o.a.toNat m, x.shown⟩)
  else if o.k = 4 then s.place p ⟨if x.regs o.b.toNat ≠ 0 then o.a.toNat else n, x.regs, x.shown⟩
  else if o.k = 5 then s.place p ⟨n, x.regs, x.shown ++ [x.regs o.a.toNat]⟩
  else s.place p ⟨n, x.regs, x.shown⟩
def kstep (ops : Nat → List KOp) (p : Nat) (s : KState) : KState :=
  match (ops p)[(s.parts p).pc]? with
  | none => s
  | some o => kdo o p s
/-- Some turns, one after another. -/
def kturns (ops : Nat → List KOp) (l : List Nat) (s : KState) : KState := l.foldl (fun s p => kstep ops p s) s
theorem kturns_append (ops : Nat → List KOp) (l m : List Nat) (s : KState) : kturns ops (l ++ m) s = kturns ops m (kturns ops l s) := by unfold kturns; rw [List.foldl_append]

section
variable {H : Nat → Prop} {to : Nat → Nat}
/-- The same, as far as nothing leads there. -/
def KAgree (H : Nat → Prop) (to : Nat → Nat) (s t : KState) : Prop := (∀ p, ¬ H p → s.parts p = t.parts p) ∧ ∀ q, ¬ H (to q) → s.held q = t.held q
theorem KAgree.refl (s : KState) : KAgree H to s s := ⟨fun _ _ => rfl, fun _ _ => rfl⟩
theorem KAgree.symm {s t : KState} (h : KAgree H to s t) : KAgree H to t s := ⟨fun p hp => (h.1 p hp).symm, fun q hq => (h.2 q hq).symm⟩
theorem KAgree.trans {s t u : KState} (h : KAgree H to s t) (k : KAgree H to t u) : KAgree H to s u := ⟨fun p hp => (h.1 p hp).trans (k.1 p hp), fun q hq => (h.2 q hq).trans (k.2 q hq)⟩
theorem agree_place {s t : KState} (h : KAgree H to s t) (p : Nat) {x y : KPlace} (hx : ¬ H p → x = y) : KAgree H to (s.place p x) (t.place p y) := by
  refine ⟨fun p' hp' => ?_, h.2⟩
  show upd _ _ _ _ = upd _ _ _ _
  unfold upd
  split
  · rename_i e; exact hx (e ▸ hp')
  · exact h.1 p' hp'
theorem agree_port {s t : KState} (h : KAgree H to s t) (q : Nat) {x y : List Int} (hx : ¬ H (to q) → x = y) : KAgree H to (s.port q x) (t.port q y) := by
  refine ⟨h.1, fun q' hq' => ?_⟩
  show upd _ _ _ _ = upd _ _ _ _
  unfold upd
  split
  · rename_i e; exact hx (e ▸ hq')
  · exact h.2 q' hq'
theorem place_still (s : KState) {p : Nat} (hp : H p) (x : KPlace) : KAgree H to s (s.place p x) := by
  refine ⟨fun p' hp' => ?_, fun _ _ => rfl⟩
  exact (upd_other s.parts x (fun e => hp' (by rw [e]; exact hp))).symm
theorem port_still (s : KState) {q : Nat} (hq : H (to q)) (l : List Int) : KAgree H to s (s.port q l) := by
  refine ⟨fun _ _ => rfl, fun q' hq' => ?_⟩
  exact (upd_other s.held l (fun e => hq' (by rw [e]; exact hq))).symm
/-- What a part does that leads nowhere else changes nothing elsewhere. -/
theorem kdo_still {o : KOp} {p : Nat} (hp : H p) (hs : o.k = 2 → H (to o.b.toNat)) (hg : o.k = 3 → to o.b.toNat = p) (s : KState) : KAgree H to s (kdo o p s) := by
  unfold kdo
  dsimp only
  split
  · exact place_still s hp _
  split
  · exact place_still s hp _
  split
  · rename_i e
    split
    · exact (port_still s (hs e) _).trans (place_still _ hp _)
    · exact place_still s hp _
  split
  · rename_i e
    split
    · exact KAgree.refl s
    · exact (port_still s (by rw [hg e]; exact hp) _).trans (place_still _ hp _)
  split
  · exact place_still s hp _
  split
  · exact place_still s hp _
  · exact place_still s hp _
/-- And a part that is alike in both does alike. -/
theorem kdo_alike {o : KOp} {p : Nat} (hp : ¬ H p) (hg : o.k = 3 → to o.b.toNat = p) {s t : KState} (h : KAgree H to s t) : KAgree H to (kdo o p s) (kdo o p t) := by
  have hx := h.1 p hp
  unfold kdo
  dsimp only
  rw [hx]
  split
  · exact agree_place h p (fun _ => rfl)
  split
  · exact agree_place h p (fun _ => rfl)
  split
  · refine agree_place ?_ p (fun _ => rfl)
    by_cases hq : H (to o.b.toNat)
    · have k1 : ∀ (z : KState) (l : List Int), KAgree H to z (if (z.held o.b.toNat).length < 4 then z.port o.b.toNat l else z) := fun z l => by
        split
        · exact port_still z hq l
        · exact KAgree.refl z
      exact ((k1 s _).symm.trans h).trans (k1 t _)
    · rw [h.2 _ hq]
      split
      · exact agree_port h _ (fun _ => rfl)
      · exact h
  split
  · rename_i e
    have hq : s.held o.b.toNat = t.held o.b.toNat := h.2 _ (by rw [hg e]; exact hp)
    rw [hq]
    split
    · exact h
    · exact agree_place (agree_port h _ (fun _ => rfl)) p (fun _ => rfl)
  split
  · exact agree_place h p (fun _ => rfl)
  split
  · exact agree_place h p (fun _ => rfl)
  · exact agree_place h p (fun _ => rfl)
/-- Each part sends only over its own ports, and gets only what is sent to it; and those in H send to none but H. -/
structure KFair (H : Nat → Prop) (to : Nat → Nat) (ops : Nat → List KOp) : Prop where
  send : ∀ p, H p → ∀ o ∈ ops p, o.k = 2 → H (to o.b.toNat)
  get : ∀ p, ∀ o ∈ ops p, o.k = 3 → to o.b.toNat = p
theorem kstep_agree {f g : Nat → List KOp} (hf : KFair H to f) (hg : KFair H to g) (he : ∀ p, ¬ H p → f p = g p) (p : Nat) {s t : KState} (h : KAgree H to s t) : KAgree H to (kstep f p s) (kstep g p t) := by
  by_cases hp : H p
  · have still : ∀ {f : Nat → List KOp}, KFair H to f → ∀ s, KAgree H to s (kstep f p s) := fun {f} hf s => by
      unfold kstep
      split
      · exact KAgree.refl s
      · rename_i o ho
        have hm := List.mem_of_getElem? ho
        exact kdo_still hp (hf.send p hp o hm) (hf.get p o hm) s
    exact ((still hf s).symm.trans h).trans (still hg t)
  · unfold kstep
    rw [he p hp, h.1 p hp]
    split
    · exact h
    · rename_i o ho
      exact kdo_alike hp (hg.get p o (List.mem_of_getElem? ho)) h
/-- RUSHBY: parts are kept apart. -/
theorem kturns_agree {f g : Nat → List KOp} (hf : KFair H to f) (hg : KFair H to g) (he : ∀ p, ¬ H p → f p = g p) (l : List Nat) : ∀ {s t : KState}, KAgree H to s t → KAgree H to (kturns f l s) (kturns g l t) := by
  induction l with
  | nil => intro s t h; exact h
  | cons p l ih => intro s t h; exact ih (kstep_agree hf hg he p h)
end

/-- What was shown stays shown, and a turn shows one more at most. -/
theorem kdo_shown (o : KOp) (p p' : Nat) (s : KState) : ∃ l, ((kdo o p s).parts p').shown = (s.parts p').shown ++ l ∧ l.length ≤ if p' = p then 1 else 0 := by
  have h1 : ∀ (z : KState) (x : KPlace), z.parts = s.parts → (∃ l, x.shown = (s.parts p).shown ++ l ∧ l.length ≤ 1) → ∃ l, ((z.place p x).parts p').shown = (s.parts p').shown ++ l ∧ l.length ≤ if p' = p then 1 else 0 := fun z x hz ⟨l, hl, hl1⟩ => by
    by_cases e : p' = p
    · subst e
      exact ⟨l, by show (upd z.parts p' x p').shown = _; rw [upd_same]; exact hl, by rw [if_pos rfl]; exact hl1⟩
    · refine ⟨[], ?_, by simp⟩
      show (upd z.parts p x p').shown = _
      rw [upd_other _ _ e, hz, List.append_nil]
  have h0 : ∃ l, (s.parts p).shown = (s.parts p).shown ++ l ∧ l.length ≤ 1 := ⟨[], by simp, by simp⟩
  unfold kdo
  dsimp only
  split
  · exact h1 _ _ rfl h0
  split
  · exact h1 _ _ rfl h0
  split
  · split
    · exact h1 _ _ rfl h0
    · exact h1 _ _ rfl h0
  split
  · split
    · exact ⟨[], by simp, by simp⟩
    · exact h1 _ _ rfl h0
  split
  · exact h1 _ _ rfl h0
  split
  · exact h1 _ _ rfl ⟨_, rfl, by simp⟩
  · exact h1 _ _ rfl h0
theorem kturns_shown (ops : Nat → List KOp) (p' : Nat) (l : List Nat) : ∀ s : KState, ∃ m, ((kturns ops l s).parts p').shown = (s.parts p').shown ++ m ∧ m.length ≤ l.count p' := by
  induction l with
  | nil => intro s; exact ⟨[], by simp [kturns], by simp⟩
  | cons p l ih =>
    intro s
    obtain ⟨m, h1, h2⟩ := ih (kstep ops p s)
    have hs : ∃ l, ((kstep ops p s).parts p').shown = (s.parts p').shown ++ l ∧ l.length ≤ if p' = p then 1 else 0 := by
      unfold kstep
      split
      · exact ⟨[], by simp, by simp⟩
      · exact kdo_shown _ p p' s
    obtain ⟨k, h3, h4⟩ := hs
    refine ⟨k ++ m, ?_, ?_⟩
    · show ((kturns ops l (kstep ops p s)).parts p').shown = _
      rw [h1, h3, List.append_assoc]
    · rw [List.length_append, List.count_cons]
      have : (if (p == p') = true then 1 else 0) = if p' = p then 1 else 0 := by
        by_cases e : p' = p
        · subst e; simp
        · have : ¬ p = p' := fun x => e x.symm
          simp [e, this]
      rw [this]; omega
end Go.Proofs.YtanlmfnhlldkeaaGreatDoor

namespace Go.Proofs.YtanlmfnhlldkeaaGreatDoor
set_option linter.unusedVariables false

/-- The first that is not 0 of f i, f (i + 1), .. (m of them). -/
def firstC (f : Nat → Nat) : Nat → Nat → Nat
  | 0, _ => 0
  | m + 1, i => if f i = 0 then firstC f m (i + 1) else f i
theorem firstC_bad {f : Nat → Nat} {n i : Nat} (hi : i < n) (h : f i ≠ 0) : firstC f (n - i) i = f i := by
  obtain ⟨m, hm⟩ : ∃ m, n - i = m + 1 := ⟨n - i - 1, by omega⟩
  rw [hm, firstC, if_neg h]
theorem firstC_next {f : Nat → Nat} {n i : Nat} (hi : i < n) (h : f i = 0) : firstC f (n - i) i = firstC f (n - (i + 1)) (i + 1) := by
  obtain ⟨m, hm⟩ : ∃ m, n - i = m + 1 := ⟨n - i - 1, by omega⟩
  rw [hm, firstC, if_pos h, show n - (i + 1) = m by omega]
theorem firstC_end (f : Nat → Nat) (n : Nat) : firstC f (n - n) n = 0 := by rw [Nat.sub_self, firstC]
theorem firstC_zero {f : Nat → Nat} : ∀ {m i : Nat}, firstC f m i = 0 → ∀ j, i ≤ j → j < i + m → f j = 0
  | 0, i, _, j, h1, h2 => by omega
  | m + 1, i, h, j, h1, h2 => by
    rw [firstC] at h
    split at h
    · rename_i h0
      rcases Nat.eq_or_lt_of_le h1 with e | e
      · subst e; exact h0
      · exact firstC_zero h j e (by omega)
    · rename_i h0; exact absurd h h0

/-- Number i of a flat list. -/
def nI (l : List Int) (i : Nat) : Int := l.getD i 0
def okReg (a : Int) : Bool := decide (0 ≤ a ∧ a ≤ 3)
/-- Is an op right in itself (q ports)? -/
def opOk (q : Nat) (k a b : Int) : Bool :=
  if k = 0 then okReg a && decide (0 ≤ b ∧ b ≤ 999999)
  else if k = 1 then okReg a && okReg b
  else if k = 2 ∨ k = 3 then okReg a && decide (0 ≤ b ∧ b ≤ (q : Int) - 1)
  else if k = 4 then decide (0 ≤ a ∧ a ≤ 12) && okReg b
  else if k = 5 then okReg a else false
def opCode (P : List Int) (q : Nat) (part : Nat) (k a b : Int) : Nat :=
  if opOk q k a b = false then 1 else if k = 2 ∧ nI P (2 * b.toNat) ≠ part ∨ k = 3 ∧ nI P (2 * b.toNat + 1) ≠ part then 7 else 0
def portCode (n : Nat) (f t : Int) : Nat := if ¬ (0 ≤ f ∧ f ≤ (n : Int) - 1) ∨ ¬ (0 ≤ t ∧ t ≤ (n : Int) - 1) then 1 else if f = t then 6 else 0
def turnCode (n : Nat) (p : Int) : Nat := if ¬ (0 ≤ p ∧ p ≤ (n : Int) - 1) then 1 else 0
/-- A part's ops as a flat list. -/
def rowCode (P : List Int) (q part : Nat) (l : List Int) : Nat :=
  if 12 < l.length / 3 then 4 else firstC (fun i => opCode P q part (nI l (3 * i)) (nI l (3 * i + 1)) (nI l (3 * i + 2))) (l.length / 3) 0
/-- What is wrong with a system: parts L, ports P (q of them), turns T. -/
def sysCode (L : List (List Int)) (P : List Int) (q : Nat) (T : List Int) : Nat :=
  let n := L.length
  if n = 0 ∨ T.length = 0 then 5
  else if 5 < n ∨ 6 < q ∨ 12 < T.length then 4
  else if firstC (fun i => portCode n (nI P (2 * i)) (nI P (2 * i + 1))) q 0 ≠ 0 then firstC (fun i => portCode n (nI P (2 * i)) (nI P (2 * i + 1))) q 0
  else if firstC (fun i => turnCode n (nI T i)) T.length 0 ≠ 0 then firstC (fun i => turnCode n (nI T i)) T.length 0
  else firstC (fun i => rowCode P q i (L.getD i [])) n 0

/-- The ops of a part, one by one. -/
def opAt (l : List Int) (i : Nat) : KOp := ⟨nI l (3 * i), nI l (3 * i + 1), nI l (3 * i + 2)⟩
def opsOf (l : List Int) : List KOp := (List.range (l.length / 3)).map (opAt l)
def sysOps (L : List (List Int)) (p : Nat) : List KOp := opsOf (L.getD p [])
theorem opsOf_get {l : List Int} {n : Nat} (h : l.length = n * 3) (i : Nat) : (opsOf l)[i]? = if i < n then some (opAt l i) else none := by
  unfold opsOf
  rw [h, Nat.mul_div_cancel _ (by decide), List.getElem?_map]
  split
  · rename_i hi; rw [List.getElem?_range hi]; rfl
  · rename_i hi; rw [List.getElem?_eq_none (by simpa using hi)]; rfl

/-- A right system. -/
structure SysOk (L : List (List Int)) (P : List Int) (q : Nat) (T : List Int) : Prop where
  parts : 1 ≤ L.length ∧ L.length ≤ 5
  few : q ≤ 6
  turns : 1 ≤ T.length ∧ T.length ≤ 12
  port : ∀ i, i < q → (0 ≤ nI P (2 * i) ∧ nI P (2 * i) < L.length) ∧ (0 ≤ nI P (2 * i + 1) ∧ nI P (2 * i + 1) < L.length) ∧ nI P (2 * i) ≠ nI P (2 * i + 1)
  turn : ∀ i, i < T.length → 0 ≤ nI T i ∧ nI T i < L.length
  short : ∀ p, p < L.length → (L.getD p []).length / 3 ≤ 12
  op : ∀ p, p < L.length → ∀ i, i < (L.getD p []).length / 3 → opCode P q p (opAt (L.getD p []) i).k (opAt (L.getD p []) i).a (opAt (L.getD p []) i).b = 0
theorem sysOk {L : List (List Int)} {P : List Int} {q : Nat} {T : List Int} (h : sysCode L P q T = 0) : SysOk L P q T := by
  unfold sysCode at h
  dsimp only at h
  split at h
  · cases h
  · split at h
    · cases h
    · split at h
      · rename_i h1; exact absurd h h1
      · split at h
        · rename_i h1; exact absurd h h1
        · rename_i h1 h2 h3 h4
          have h3 := Classical.not_not.1 h3
          have h4 := Classical.not_not.1 h4
          have hr : ∀ p, p < L.length → rowCode P q p (L.getD p []) = 0 := fun p hp => firstC_zero h p (Nat.zero_le _) (by omega)
          refine ⟨by omega, by omega, by omega, fun i hi => ?_, fun i hi => ?_, fun p hp => ?_, fun p hp i hi => ?_⟩
          · have := firstC_zero h3 i (Nat.zero_le _) (by omega)
            unfold portCode at this
            split at this
            · cases this
            · split at this
              · cases this
              · omega
          · have := firstC_zero h4 i (Nat.zero_le _) (by omega)
            unfold turnCode at this
            split at this
            · cases this
            · omega
          · have := hr p hp
            unfold rowCode at this
            split at this
            · cases this
            · omega
          · have := hr p hp
            unfold rowCode at this
            split at this
            · cases this
            · exact firstC_zero this i (Nat.zero_le _) (by omega)
theorem opCode_ok {P : List Int} {q part : Nat} {k a b : Int} (h : opCode P q part k a b = 0) : opOk q k a b = true ∧ (k = 2 → nI P (2 * b.toNat) = part) ∧ (k = 3 → nI P (2 * b.toNat + 1) = part) := by
  unfold opCode at h
  split at h
  · cases h
  · rename_i h1
    split at h
    · cases h
    · rename_i h2
      exact ⟨by simpa using h1, fun e => Classical.byContradiction fun x => h2 (.inl ⟨e, x⟩), fun e => Classical.byContradiction fun x => h2 (.inr ⟨e, x⟩)⟩
theorem okReg_ok {a : Int} (h : okReg a = true) : 0 ≤ a ∧ a ≤ 3 := of_decide_eq_true h
theorem opOk_cases {q : Nat} {k a b : Int} (h : opOk q k a b = true) :
    (k = 0 ∧ (0 ≤ a ∧ a ≤ 3) ∧ 0 ≤ b ∧ b ≤ 999999) ∨ (k = 1 ∧ (0 ≤ a ∧ a ≤ 3) ∧ 0 ≤ b ∧ b ≤ 3) ∨ (k = 2 ∧ (0 ≤ a ∧ a ≤ 3) ∧ 0 ≤ b ∧ b < q) ∨ (k = 3 ∧ (0 ≤ a ∧ a ≤ 3) ∧ 0 ≤ b ∧ b < q) ∨ (k = 4 ∧ (0 ≤ a ∧ a ≤ 12) ∧ 0 ≤ b ∧ b ≤ 3) ∨ (k = 5 ∧ (0 ≤ a ∧ a ≤ 3)) := by
  unfold opOk at h
  split at h
  · rename_i e; rw [Bool.and_eq_true] at h; exact .inl ⟨e, okReg_ok h.1, of_decide_eq_true h.2⟩
  split at h
  · rename_i e; rw [Bool.and_eq_true] at h; exact .inr (.inl ⟨e, okReg_ok h.1, okReg_ok h.2⟩)
  split at h
  · rename_i e
    rw [Bool.and_eq_true] at h
    have h1 := okReg_ok h.1
    have h2 := of_decide_eq_true h.2
    rcases e with e | e
    · exact .inr (.inr (.inl ⟨e, h1, by omega⟩))
    · exact .inr (.inr (.inr (.inl ⟨e, h1, by omega⟩)))
  split at h
  · rename_i e
    rw [Bool.and_eq_true] at h
    exact .inr (.inr (.inr (.inr (.inl ⟨e, of_decide_eq_true h.1, okReg_ok h.2⟩))))
  split at h
  · rename_i e; exact .inr (.inr (.inr (.inr (.inr ⟨e, okReg_ok h⟩))))
  · cases h
/-- To which part a port leads. -/
def portTo (P : List Int) (i : Nat) : Nat := (nI P (2 * i + 1)).toNat
def portFrom (P : List Int) (i : Nat) : Nat := (nI P (2 * i)).toNat
theorem sysOps_mem {L : List (List Int)} {P : List Int} {q : Nat} {T : List Int} (h : SysOk L P q T) {p : Nat} {o : KOp} (ho : o ∈ sysOps L p) : p < L.length ∧ opCode P q p o.k o.a o.b = 0 := by
  unfold sysOps opsOf at ho
  obtain ⟨i, hi, rfl⟩ := List.mem_map.1 ho
  rw [List.mem_range] at hi
  have hp : p < L.length := by
    rcases Nat.lt_or_ge p L.length with h1 | h1
    · exact h1
    · rw [List.getD_eq_getElem?_getD, List.getElem?_eq_none h1] at hi; simp at hi
  exact ⟨hp, h.op p hp i hi⟩
theorem sys_fair {L : List (List Int)} {P : List Int} {q : Nat} {T : List Int} (h : SysOk L P q T) {H : Nat → Prop} (hc : ∀ i, i < q → H (portFrom P i) → H (portTo P i)) : KFair H (portTo P) (sysOps L) := by
  constructor
  · intro p hp o ho hk
    obtain ⟨_, hcode⟩ := sysOps_mem h ho
    obtain ⟨h1, h2, _⟩ := opCode_ok hcode
    have h2 := h2 hk
    rcases opOk_cases h1 with ⟨e, r⟩ | ⟨e, r⟩ | ⟨e, r⟩ | ⟨e, r⟩ | ⟨e, r⟩ | ⟨e, r⟩ <;> rw [hk] at e <;> try cases e
    refine hc o.b.toNat (by omega) ?_
    unfold portFrom
    rw [h2, Int.toNat_natCast]; exact hp
  · intro p o ho hk
    obtain ⟨_, hcode⟩ := sysOps_mem h ho
    obtain ⟨_, _, h3⟩ := opCode_ok hcode
    unfold portTo
    rw [h3 hk, Int.toNat_natCast]

/-- What stays within its bounds. -/
structure KInv (s : KState) (t : Nat) : Prop where
  pc : ∀ p, (s.parts p).pc ≤ 12
  regs : ∀ p r, 0 ≤ (s.parts p).regs r ∧ (s.parts p).regs r ≤ 999999
  shown : ∀ p, (s.parts p).shown.length ≤ t ∧ ∀ x ∈ (s.parts p).shown, 0 ≤ x ∧ x ≤ 999999
  held : ∀ q, (s.held q).length ≤ 4 ∧ ∀ x ∈ s.held q, 0 ≤ x ∧ x ≤ 999999
theorem KInv.mono {s : KState} {t u : Nat} (h : KInv s t) (htu : t ≤ u) : KInv s u := ⟨h.pc, h.regs, fun p => ⟨Nat.le_trans (h.shown p).1 htu, (h.shown p).2⟩, h.held⟩
theorem KInv.place {s : KState} {t p : Nat} {x : KPlace} (h : KInv s t) (h1 : x.pc ≤ 12) (h2 : ∀ r, 0 ≤ x.regs r ∧ x.regs r ≤ 999999) (h3 : x.shown.length ≤ t ∧ ∀ y ∈ x.shown, 0 ≤ y ∧ y ≤ 999999) : KInv (s.place p x) t := by
  refine ⟨fun p' => ?_, fun p' => ?_, fun p' => ?_, h.held⟩
  · show (upd s.parts p x p').pc ≤ 12
    unfold upd; split; exact h1; exact h.pc p'
  · show ∀ r, 0 ≤ (upd s.parts p x p').regs r ∧ (upd s.parts p x p').regs r ≤ 999999
    unfold upd; split; exact h2; exact h.regs p'
  · show (upd s.parts p x p').shown.length ≤ t ∧ ∀ y ∈ (upd s.parts p x p').shown, 0 ≤ y ∧ y ≤ 999999
    unfold upd; split; exact h3; exact h.shown p'
theorem KInv.port {s : KState} {t q : Nat} {l : List Int} (h : KInv s t) (hl : l.length ≤ 4 ∧ ∀ x ∈ l, 0 ≤ x ∧ x ≤ 999999) : KInv (s.port q l) t := by
  refine ⟨h.pc, h.regs, h.shown, fun q' => ?_⟩
  show (upd s.held q l q').length ≤ 4 ∧ ∀ x ∈ upd s.held q l q', 0 ≤ x ∧ x ≤ 999999
  unfold upd; split; exact hl; exact h.held q'
theorem upd_regs {f : Nat → Int} {i : Nat} {x : Int} (h : ∀ r, 0 ≤ f r ∧ f r ≤ 999999) (hx : 0 ≤ x ∧ x ≤ 999999) : ∀ r, 0 ≤ upd f i x r ∧ upd f i x r ≤ 999999 := fun r => by unfold upd; split; exact hx; exact h r
theorem KInv.kdo {s : KState} {t p q : Nat} {o : KOp} (h : KInv s t) (ho : opOk q o.k o.a o.b = true) (hp : (s.parts p).pc < 12) : KInv (kdo o p s) (t + 1) := by
  have h' := h.mono (Nat.le_succ t)
  have hR := h.regs p
  have hS := h'.shown p
  unfold Go.Proofs.YtanlmfnhlldkeaaGreatDoor.kdo
  dsimp only
  rcases opOk_cases ho with ⟨e, r⟩ | ⟨e, r⟩ | ⟨e, r⟩ | ⟨e, r⟩ | ⟨e, r⟩ | ⟨e, r⟩
  · rw [if_pos e]; exact h'.place (by show _ + 1 ≤ 12; omega) (upd_regs hR r.2) hS
  · rw [if_neg (by omega), if_pos e]; exact h'.place (by show _ + 1 ≤ 12; omega) (upd_regs hR (by have := hR o.a.toNat; have := hR o.b.toNat; omega)) hS
  · rw [if_neg (by omega), if_neg (by omega), if_pos e]
    refine KInv.place ?_ (by show _ + 1 ≤ 12; omega) hR hS
    split
    · rename_i h4
      refine h'.port ⟨by rw [List.length_append]; simp; omega, fun x hx => ?_⟩
      rcases List.mem_append.1 hx with hx | hx
      · exact (h.held _).2 x hx
      · rw [List.mem_singleton.1 hx]; exact hR _
    · exact h'
  · rw [if_neg (by omega), if_neg (by omega), if_neg (by omega), if_pos e]
    split
    · exact h'
    · rename_i m l hm
      have hh := h.held o.b.toNat
      rw [hm] at hh
      refine KInv.place (h'.port ⟨by have := hh.1; simp at this; omega, fun x hx => hh.2 x (List.mem_cons_of_mem _ hx)⟩) (by show _ + 1 ≤ 12; omega) (upd_regs hR (hh.2 m (List.mem_cons_self ..))) hS
  · rw [if_neg (by omega), if_neg (by omega), if_neg (by omega), if_neg (by omega), if_pos e]
    exact h'.place (by show (if (s.parts p).regs o.b.toNat ≠ 0 then o.a.toNat else (s.parts p).pc + 1) ≤ 12; split <;> omega) hR hS
  · rw [if_neg (by omega), if_neg (by omega), if_neg (by omega), if_neg (by omega), if_neg (by omega), if_pos e]
    refine h'.place (by show _ + 1 ≤ 12; omega) hR ⟨by rw [List.length_append]; simp; exact (h.shown p).1, fun x hx => ?_⟩
    rcases List.mem_append.1 hx with hx | hx
    · exact (h.shown p).2 x hx
    · rw [List.mem_singleton.1 hx]; exact hR _
theorem KInv.step {L : List (List Int)} {P : List Int} {q : Nat} {T : List Int} (hs : SysOk L P q T) {s : KState} {t p : Nat} (h : KInv s t) : KInv (kstep (sysOps L) p s) (t + 1) := by
  unfold kstep
  split
  · exact h.mono (Nat.le_succ t)
  · rename_i o ho
    have hm := sysOps_mem hs (List.mem_of_getElem? ho)
    refine h.kdo (opCode_ok hm.2).1 ?_
    have h1 := (List.getElem?_eq_some_iff.1 ho).1
    unfold sysOps opsOf at h1
    simp only [List.length_map, List.length_range] at h1
    have := hs.short p hm.1
    omega
/-- Whose turns they are: so many from tick t on. -/
def turnsFrom (T : List Int) (t m : Nat) : List Nat := (List.range m).map fun i => (nI T ((t + i) % T.length)).toNat
theorem turnsFrom_zero (T : List Int) (t : Nat) : turnsFrom T t 0 = [] := rfl
theorem turnsFrom_succ (T : List Int) (t m : Nat) : turnsFrom T t (m + 1) = turnsFrom T t m ++ [(nI T ((t + m) % T.length)).toNat] := by
  unfold turnsFrom; rw [List.range_succ, List.map_append]; rfl
theorem turnsFrom_add (T : List Int) (t a b : Nat) : turnsFrom T t (a + b) = turnsFrom T t a ++ turnsFrom T (t + a) b := by
  induction b with
  | zero => simp [turnsFrom_zero]
  | succ b ih => rw [← Nat.add_assoc, turnsFrom_succ, ih, turnsFrom_succ, List.append_assoc, Nat.add_assoc]
theorem kturns_snoc (ops : Nat → List KOp) (l : List Nat) (p : Nat) (s : KState) : kturns ops (l ++ [p]) s = kstep ops p (kturns ops l s) := by rw [kturns_append]; rfl
theorem KInv.turns {L : List (List Int)} {P : List Int} {q : Nat} {T : List Int} (hs : SysOk L P q T) (l : List Nat) : ∀ {s : KState} {t : Nat}, KInv s t → KInv (kturns (sysOps L) l s) (t + l.length) := by
  induction l with
  | nil => intro s t h; exact h
  | cons p l ih =>
    intro s t h
    have := ih (h.step hs (p := p))
    show KInv (kturns (sysOps L) l (kstep (sysOps L) p s)) (t + (l.length + 1))
    rwa [show t + (l.length + 1) = t + 1 + l.length by omega]
/-- A kernel at its start. -/
def kNew : KState := ⟨fun _ => ⟨0, fun _ => 0, []⟩, fun _ => []⟩
theorem kNew_inv : KInv kNew 0 := ⟨fun _ => by simp [kNew], fun _ _ => by simp [kNew], fun _ => by simp [kNew], fun _ => by simp [kNew]⟩
end Go.Proofs.YtanlmfnhlldkeaaGreatDoor
