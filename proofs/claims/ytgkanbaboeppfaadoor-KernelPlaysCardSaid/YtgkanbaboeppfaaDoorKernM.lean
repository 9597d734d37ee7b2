/-
  A kernel as it lies in memory. No program is looked at, but for the types' rows.
-/
import Derived.Test.YtgkanbaboeppfaaDoorKernB
import Derived.Test.YtgkanbaboeppfaaDoorGrid
import Derived.Test.YtgkanbaboeppfaaDoorRowW
import Derived.Deep.OwnRows
namespace Go.Proofs.YtgkanbaboeppfaaDoor
open Go.RowKit
set_option maxRecDepth 100000
set_option linter.unusedVariables false

/-- Where the slices of a kernel lie. -/
structure KF where
  Ap : Option Addr
  Ao : Option Addr
  At : Option Addr
  cp : Nat
  co : Nat
  ct : Nat
  gp : Nat
  gh : Nat
def PartsAt (role : Nat → Nat) (w : World) (gp n : Nat) (st : Nat → KPlace) : Prop :=
  ∃ f : Nat → Value, w.rowIs gp 60 (n * 6) f ∧ ∀ i, i < n → f (i * 6) = .int .i64 (st i).pc ∧ (∀ r, r < 4 → f (i * 6 + 1 + r) = .int .i64 ((st i).regs r)) ∧ RowW role (4 + 2 * i) w (f (i * 6 + 5)) (st i).shown
def HeldAt (role : Nat → Nat) (w : World) (gh q : Nat) (g : Nat → List Int) : Prop :=
  ∃ f : Nat → Value, w.rowIs gh 24 q f ∧ ∀ j, j < q → RowW role (5 + 2 * j) w (f j) (g j)
def kBox (K : KF) (n q m t : Nat) : Array Value := #[.slice K.Ap n K.cp, .slice K.Ao q K.co, .slice K.At m K.ct, .slice (some ⟨K.gp, 0, none⟩) n n, .slice (some ⟨K.gh, 0, none⟩) q q, .int .i64 t]
/-- The blocks that are only read. -/
def readB (role : Nat → Nat) (lo hi : Nat) : Nat → Prop := fun b => lo ≤ b ∧ b < hi ∧ role b = 0
structure KernAt (role : Nat → Nat) (lo hi : Nat) (w : World) (p : Nat) (K : KF) (L : List (List Int)) (P : List Int) (q : Nat) (T : List Int) (s : KState) (t : Nat) : Prop where
  box : BoxN w p 53 (kBox K L.length q T.length t)
  rp : role p = 1
  rgp : role K.gp = 2
  rgh : role K.gh = 3
  low : ∀ b, b < lo → role b = 0
  new : ∀ b, w.heap.size ≤ b → role b = 0
  size : hi ≤ w.heap.size
  inn : (lo ≤ p ∧ p < hi) ∧ (lo ≤ K.gp ∧ K.gp < hi) ∧ lo ≤ K.gh ∧ K.gh < hi
  parts : PartsAt role w K.gp L.length s.parts
  held : HeldAt role w K.gh q s.held
  progs : RowsIn (readB role lo hi) 3 w K.Ap L
  ports : IntsIn (readB role lo hi) w K.Ao P
  turns : IntsIn (readB role lo hi) w K.At T
  plen : P.length = q * 2

section
variable {role role' : Nat → Nat} {lo hi : Nat} {w w' : World} {p : Nat} {K : KF} {L : List (List Int)} {P : List Int} {q : Nat} {T : List Int} {s : KState} {t : Nat}
theorem RowsIn.mono {ok ok' : Nat → Prop} {k : Nat} {A : Option Addr} {Ls : List (List Int)} (h : RowsIn ok k w A Ls) (ho : ∀ b, b < w.heap.size → ok b → ok' b) : RowsIn ok' k w A Ls := fun hne => by
  obtain ⟨b, off, e, hb, hc⟩ := h hne
  obtain ⟨l0, r, rfl⟩ : ∃ l0 r, Ls = l0 :: r := by cases Ls with
    | nil => exact absurd rfl hne
    | cons x r => exact ⟨x, r, rfl⟩
  obtain ⟨_, _, _, h1, _⟩ := hc 0 l0 rfl
  refine ⟨b, off, e, ho b (block_lt h1) hb, fun i l hi => ?_⟩
  obtain ⟨Ai, ni, ci, h1, h2, h3, h4⟩ := hc i l hi
  exact ⟨Ai, ni, ci, h1, h2, h3, h4.mono ho⟩
theorem PartsAt.keep {gp n : Nat} {st : Nat → KPlace} (h : PartsAt role w gp n st) (hg : w'.heap[gp]? = w.heap[gp]?) (hk : ∀ i, i < n → ∀ g, g < w.heap.size → role g = 4 + 2 * i → w'.heap[g]? = w.heap[g]?) (hr : ∀ g, g < w.heap.size → role' g = role g) : PartsAt role' w' gp n st := by
  obtain ⟨f, h1, h2⟩ := h
  exact ⟨f, h1.of_block hg, fun i hi => ⟨(h2 i hi).1, (h2 i hi).2.1, (h2 i hi).2.2.keep (hk i hi) hr⟩⟩
theorem HeldAt.keep {gh q : Nat} {g : Nat → List Int} (h : HeldAt role w gh q g) (hg : w'.heap[gh]? = w.heap[gh]?) (hk : ∀ j, j < q → ∀ b, b < w.heap.size → role b = 5 + 2 * j → w'.heap[b]? = w.heap[b]?) (hr : ∀ b, b < w.heap.size → role' b = role b) : HeldAt role' w' gh q g := by
  obtain ⟨f, h1, h2⟩ := h
  exact ⟨f, h1.of_block hg, fun j hj => (h2 j hj).keep (hk j hj) hr⟩
theorem readB.of {b : Nat} (hr : ∀ b, b < w.heap.size → role' b = role b) (hb : b < w.heap.size) (h : readB role lo hi b) : readB role' lo hi b := ⟨h.1, h.2.1, (hr b hb).trans h.2.2⟩
/-- What stays where all that it reads stays. -/
theorem KernAt.keep (h : KernAt role lo hi w p K L P q T s t) (hs : w.heap.size ≤ w'.heap.size) (hk : ∀ b, b < w.heap.size → role b ≠ 0 ∨ (lo ≤ b ∧ b < hi) → w'.heap[b]? = w.heap[b]?) (hr : ∀ b, b < w.heap.size → role' b = role b) (hw : ∀ b, w'.heap.size ≤ b → role' b = 0) : KernAt role' lo hi w' p K L P q T s t := by
  have hz := h.size
  have hi' := h.inn
  have rd : ∀ b, b < w.heap.size → readB role lo hi b → w'.heap[b]? = w.heap[b]? := fun b hb ho => hk b hb (.inr ⟨ho.1, ho.2.1⟩)
  refine ⟨(hk p (by omega) (.inr hi'.1)).trans h.box, (hr p (by omega)).trans h.rp, (hr K.gp (by omega)).trans h.rgp, (hr K.gh (by omega)).trans h.rgh, fun b hb => (hr b (by omega)).trans (h.low b hb), hw, by omega, hi', h.parts.keep (hk _ (by omega) (.inr hi'.2.1)) (fun i hi g hg hc => hk g hg (.inl (by omega))) hr, h.held.keep (hk _ (by omega) (.inr hi'.2.2)) (fun i hi g hg hc => hk g hg (.inl (by omega))) hr, ?_, ?_, ?_, h.plen⟩
  · exact ((h.progs.keep rd).mono fun b hb ho => ⟨ho.1, ho.2.1, (hr b (by have := ho.2.1; omega)).trans ho.2.2⟩)
  · exact ((h.ports.keep rd).mono fun b hb ho => ⟨ho.1, ho.2.1, (hr b (by have := ho.2.1; omega)).trans ho.2.2⟩)
  · exact ((h.turns.keep rd).mono fun b hb ho => ⟨ho.1, ho.2.1, (hr b (by have := ho.2.1; omega)).trans ho.2.2⟩)
theorem KernAt.below (h : KernAt role lo hi w p K L P q T s t) (hb : Below w.heap.size w w') : KernAt role lo hi w' p K L P q T s t := h.keep hb.size (fun b h1 _ => hb.block b h1) (fun _ _ => rfl) fun b h1 => h.new b (Nat.le_trans hb.size h1)
/-- Another kernel's run: nothing of this one turns. -/
theorem KernAt.off {r2 r2' : Nat → Nat} (h : KernAt role lo hi w p K L P q T s t) (k : RoleTo r2 w r2' w') (hd : ∀ b, b < w.heap.size → role b ≠ 0 ∨ (lo ≤ b ∧ b < hi) → r2 b = 0) : KernAt role lo hi w' p K L P q T s t :=
  h.keep k.size (fun b hb h1 => k.block b hb (hd b hb h1)) (fun _ _ => rfl) fun b h1 => h.new b (Nat.le_trans k.size h1)

theorem upd_upd {α : Type} (f : Nat → α) (i : Nat) (x y : α) : upd (upd f i x) i y = upd f i y := funext fun j => by unfold upd; split <;> rfl
/-- A word of the kernel is stored where it lies. -/
theorem KernAt.store (h : KernAt role lo hi w p K L P q T s t) {a : Addr} (ha : role a.block ≠ 0) (v : Value) (s' : KState) (t' : Nat) (hb : BoxN (w.setCell a v) p 53 (kBox K L.length q T.length t')) (hp : PartsAt role (w.setCell a v) K.gp L.length s'.parts) (hh : HeldAt role (w.setCell a v) K.gh q s'.held) : KernAt role lo hi (w.setCell a v) p K L P q T s' t' := by
  have rd : ∀ b, b < w.heap.size → readB role lo hi b → (w.setCell a v).heap[b]? = w.heap[b]? := fun b hb ho => Below.heap_setCell w a v b (fun e => ha (e ▸ ho.2.2))
  exact ⟨hb, h.rp, h.rgp, h.rgh, h.low, fun b hb => h.new b (by simpa using hb), by simpa using h.size, h.inn, hp, hh, h.progs.keep rd, h.ports.keep rd, h.turns.keep rd, h.plen⟩
theorem rows_store {code : Nat} {v : Value} {l : List Int} (h : RowW role code w v l) {a : Addr} (ha : role a.block ≠ code) (u : Value) : RowW role code (w.setCell a u) v l :=
  h.keep (fun g _ hg => Below.heap_setCell w a u g (fun e => ha (by rw [← e]; exact hg))) fun _ _ => rfl
theorem PartsAt.setPc {gp n : Nat} {st : Nat → KPlace} (h : PartsAt role w gp n st) (hg : role gp = 2) {i : Nat} (hi : i < n) (pc : Nat) : PartsAt role (w.setCell ⟨gp, i * 6, none⟩ (.int .i64 pc)) gp n (upd st i ⟨pc, (st i).regs, (st i).shown⟩) := by
  obtain ⟨f, h1, h2⟩ := h
  refine ⟨_, h1.set (i * 6) _, fun j hj => ?_⟩
  obtain ⟨a1, a2, a3⟩ := h2 j hj
  have a3' := rows_store a3 (a := ⟨gp, i * 6, none⟩) (by show role gp ≠ _; omega) (.int .i64 pc)
  by_cases e : j = i
  · subst e
    rw [upd_same]
    exact ⟨if_pos rfl, fun r hr => (if_neg (by omega)).trans (a2 r hr), by rw [if_neg (by omega)]; exact a3'⟩
  · rw [upd_other _ _ e]
    exact ⟨(if_neg (by omega)).trans a1, fun r hr => (if_neg (by omega)).trans (a2 r hr), by rw [if_neg (by omega)]; exact a3'⟩
theorem PartsAt.setReg {gp n : Nat} {st : Nat → KPlace} (h : PartsAt role w gp n st) (hg : role gp = 2) {i a : Nat} (hi : i < n) (ha : a < 4) (x : Int) : PartsAt role (w.setCell ⟨gp, i * 6 + 1 + a, none⟩ (.int .i64 x)) gp n (upd st i ⟨(st i).pc, upd (st i).regs a x, (st i).shown⟩) := by
  obtain ⟨f, h1, h2⟩ := h
  refine ⟨_, h1.set (i * 6 + 1 + a) _, fun j hj => ?_⟩
  obtain ⟨a1, a2, a3⟩ := h2 j hj
  have a3' := rows_store a3 (a := ⟨gp, i * 6 + 1 + a, none⟩) (by show role gp ≠ _; omega) (.int .i64 x)
  by_cases e : j = i
  · subst e
    rw [upd_same]
    refine ⟨(if_neg (by omega)).trans a1, fun r hr => ?_, by rw [if_neg (by omega)]; exact a3'⟩
    show _ = Value.int .i64 (upd (st j).regs a x r)
    by_cases e2 : r = a
    · subst e2; rw [upd_same]; exact if_pos rfl
    · rw [upd_other _ _ e2]; exact (if_neg (by omega)).trans (a2 r hr)
  · rw [upd_other _ _ e]
    exact ⟨(if_neg (by omega)).trans a1, fun r hr => (if_neg (by omega)).trans (a2 r hr), by rw [if_neg (by omega)]; exact a3'⟩
theorem PartsAt.setShown {gp n : Nat} {st : Nat → KPlace} (h : PartsAt role w gp n st) (hg : role gp = 2) {i : Nat} (hi : i < n) {v : Value} {l : List Int} (hv : RowW role (4 + 2 * i) w v l) : PartsAt role (w.setCell ⟨gp, i * 6 + 5, none⟩ v) gp n (upd st i ⟨(st i).pc, (st i).regs, l⟩) := by
  obtain ⟨f, h1, h2⟩ := h
  refine ⟨_, h1.set (i * 6 + 5) _, fun j hj => ?_⟩
  obtain ⟨a1, a2, a3⟩ := h2 j hj
  have a3' := rows_store a3 (a := ⟨gp, i * 6 + 5, none⟩) (by show role gp ≠ _; omega) v
  have hv' := rows_store hv (a := ⟨gp, i * 6 + 5, none⟩) (by show role gp ≠ _; omega) v
  by_cases e : j = i
  · subst e
    rw [upd_same]
    exact ⟨(if_neg (by omega)).trans a1, fun r hr => (if_neg (by omega)).trans (a2 r hr), by rw [if_pos rfl]; exact hv'⟩
  · rw [upd_other _ _ e]
    exact ⟨(if_neg (by omega)).trans a1, fun r hr => (if_neg (by omega)).trans (a2 r hr), by rw [if_neg (by omega)]; exact a3'⟩
theorem HeldAt.setRow {gh q : Nat} {g : Nat → List Int} (h : HeldAt role w gh q g) (hg : role gh = 3) {j : Nat} (hj : j < q) {v : Value} {l : List Int} (hv : RowW role (5 + 2 * j) w v l) : HeldAt role (w.setCell ⟨gh, j, none⟩ v) gh q (upd g j l) := by
  obtain ⟨f, h1, h2⟩ := h
  refine ⟨_, h1.set j _, fun i hi => ?_⟩
  have a3' := rows_store (h2 i hi) (a := ⟨gh, j, none⟩) (by show role gh ≠ _; omega) v
  have hv' := rows_store hv (a := ⟨gh, j, none⟩) (by show role gh ≠ _; omega) v
  by_cases e : i = j
  · subst e
    rw [upd_same, if_pos rfl]; exact hv'
  · rw [upd_other _ _ e, if_neg e]; exact a3'
theorem PartsAt.far {gp n : Nat} {st : Nat → KPlace} (h : PartsAt role w gp n st) {a : Addr} (hne : a.block ≠ gp) (hc : role a.block < 4) (v : Value) : PartsAt role (w.setCell a v) gp n st :=
  h.keep (Below.heap_setCell w a v gp (fun e => hne e.symm)) (fun i hi g _ hg => Below.heap_setCell w a v g (fun e => by rw [e] at hg; omega)) fun _ _ => rfl
theorem HeldAt.far {gh q : Nat} {g : Nat → List Int} (h : HeldAt role w gh q g) {a : Addr} (hne : a.block ≠ gh) (hc : role a.block < 5) (v : Value) : HeldAt role (w.setCell a v) gh q g :=
  h.keep (Below.heap_setCell w a v gh (fun e => hne e.symm)) (fun i hi g _ hg => Below.heap_setCell w a v g (fun e => by rw [e] at hg; omega)) fun _ _ => rfl
theorem KernAt.ne (h : KernAt role lo hi w p K L P q T s t) : p ≠ K.gp ∧ p ≠ K.gh ∧ K.gp ≠ K.gh :=
  ⟨fun e => by have h1 := h.rp; have h2 := h.rgp; rw [e] at h1; omega, fun e => by have h1 := h.rp; have h2 := h.rgh; rw [e] at h1; omega, fun e => by have h1 := h.rgp; have h2 := h.rgh; rw [e] at h1; omega⟩
theorem KernAt.setPc (h : KernAt role lo hi w p K L P q T s t) {i : Nat} (hil : i < L.length) (pc : Nat) : KernAt role lo hi (w.setCell ⟨K.gp, i * 6, none⟩ (.int .i64 pc)) p K L P q T (s.place i ⟨pc, (s.parts i).regs, (s.parts i).shown⟩) t :=
  h.store (a := ⟨K.gp, i * 6, none⟩) (by show role K.gp ≠ 0; rw [h.rgp]; decide) _ _ _ (h.box.other (a := ⟨K.gp, i * 6, none⟩) h.ne.1 _) (h.parts.setPc h.rgp hil pc) (h.held.far (a := ⟨K.gp, i * 6, none⟩) h.ne.2.2 (by show role K.gp < 5; rw [h.rgp]; decide) _)
theorem KernAt.setReg (h : KernAt role lo hi w p K L P q T s t) {i a : Nat} (hil : i < L.length) (ha : a < 4) (x : Int) : KernAt role lo hi (w.setCell ⟨K.gp, i * 6 + 1 + a, none⟩ (.int .i64 x)) p K L P q T (s.place i ⟨(s.parts i).pc, upd (s.parts i).regs a x, (s.parts i).shown⟩) t :=
  h.store (a := ⟨K.gp, i * 6 + 1 + a, none⟩) (by show role K.gp ≠ 0; rw [h.rgp]; decide) _ _ _ (h.box.other (a := ⟨K.gp, i * 6 + 1 + a, none⟩) h.ne.1 _) (h.parts.setReg h.rgp hil ha x) (h.held.far (a := ⟨K.gp, i * 6 + 1 + a, none⟩) h.ne.2.2 (by show role K.gp < 5; rw [h.rgp]; decide) _)
theorem KernAt.setShown (h : KernAt role lo hi w p K L P q T s t) {i : Nat} (hil : i < L.length) {v : Value} {l : List Int} (hv : RowW role (4 + 2 * i) w v l) : KernAt role lo hi (w.setCell ⟨K.gp, i * 6 + 5, none⟩ v) p K L P q T (s.place i ⟨(s.parts i).pc, (s.parts i).regs, l⟩) t :=
  h.store (a := ⟨K.gp, i * 6 + 5, none⟩) (by show role K.gp ≠ 0; rw [h.rgp]; decide) _ _ _ (h.box.other (a := ⟨K.gp, i * 6 + 5, none⟩) h.ne.1 _) (h.parts.setShown h.rgp hil hv) (h.held.far (a := ⟨K.gp, i * 6 + 5, none⟩) h.ne.2.2 (by show role K.gp < 5; rw [h.rgp]; decide) _)
theorem KernAt.setHeld (h : KernAt role lo hi w p K L P q T s t) {j : Nat} (hj : j < q) {v : Value} {l : List Int} (hv : RowW role (5 + 2 * j) w v l) : KernAt role lo hi (w.setCell ⟨K.gh, j, none⟩ v) p K L P q T (s.port j l) t :=
  h.store (a := ⟨K.gh, j, none⟩) (by show role K.gh ≠ 0; rw [h.rgh]; decide) _ _ _ (h.box.other (a := ⟨K.gh, j, none⟩) h.ne.2.1 _) (h.parts.far (a := ⟨K.gh, j, none⟩) (fun e => h.ne.2.2 e.symm) (by show role K.gh < 4; rw [h.rgh]; decide) _) (h.held.setRow h.rgh hj hv)
theorem KernAt.setTick (h : KernAt role lo hi w p K L P q T s t) (t' : Nat) : KernAt role lo hi (w.setCell ⟨p, 5, none⟩ (.int .i64 t')) p K L P q T s t' :=
  h.store (a := ⟨p, 5, none⟩) (by show role p ≠ 0; rw [h.rp]; decide) _ _ _ (h.box.set 5 _) (h.parts.far (a := ⟨p, 5, none⟩) h.ne.1 (by show role p < 4; rw [h.rp]; decide) _) (h.held.far (a := ⟨p, 5, none⟩) h.ne.2.1 (by show role p < 5; rw [h.rp]; decide) _)
/-- A row was lengthened, and lies aside. -/
theorem KernAt.pushed {code : Nat} (hc : 4 ≤ code) (h : KernAt role lo hi w p K L P q T s t) (hr : ∀ b, b < w.heap.size → role' b = role b) (hs : w.heap.size ≤ w'.heap.size) (hb : ∀ b, b < w.heap.size → role b ≠ code → w'.heap[b]? = w.heap[b]?) (hw : ∀ b, w'.heap.size ≤ b → role' b = 0) :
    (∀ i, 4 + 2 * i = code → i < L.length → ∀ v l, RowW role' code w' v l → KernAt role' lo hi (w'.setCell ⟨K.gp, i * 6 + 5, none⟩ v) p K L P q T (s.place i ⟨(s.parts i).pc, (s.parts i).regs, l⟩) t) ∧
    (∀ j, 5 + 2 * j = code → j < q → ∀ v l, RowW role' code w' v l → KernAt role' lo hi (w'.setCell ⟨K.gh, j, none⟩ v) p K L P q T (s.port j l) t) := by
  have hz := h.size
  have hin := h.inn
  have r1 := h.rp
  have r2 := h.rgp
  have r3 := h.rgh
  have hne := h.ne
  have rd : ∀ b, b < w.heap.size → readB role lo hi b → w'.heap[b]? = w.heap[b]? := fun b h1 ho => hb b h1 (by rw [ho.2.2]; omega)
  have hbox : BoxN w' p 53 (kBox K L.length q T.length t) := (hb p (by omega) (by omega)).trans h.box
  have c1 : RowsIn (readB role' lo hi) 3 w' K.Ap L := ((h.progs.keep rd).mono fun b hb ho => ⟨ho.1, ho.2.1, (hr b (by have := ho.2.1; omega)).trans ho.2.2⟩)
  have c2 : IntsIn (readB role' lo hi) w' K.Ao P := ((h.ports.keep rd).mono fun b hb ho => ⟨ho.1, ho.2.1, (hr b (by have := ho.2.1; omega)).trans ho.2.2⟩)
  have c3 : IntsIn (readB role' lo hi) w' K.At T := ((h.turns.keep rd).mono fun b hb ho => ⟨ho.1, ho.2.1, (hr b (by have := ho.2.1; omega)).trans ho.2.2⟩)
  have q2 : role' K.gp = 2 := (hr _ (by omega)).trans r2
  have q3 : role' K.gh = 3 := (hr _ (by omega)).trans r3
  have q1 : role' p = 1 := (hr _ (by omega)).trans r1
  have low : ∀ b, b < lo → role' b = 0 := fun b hb => (hr b (by omega)).trans (h.low b hb)
  have rset : ∀ (a : Addr) (v : Value), role' a.block ≠ 0 → (∀ b, readB role' lo hi b → (w'.setCell a v).heap[b]? = w'.heap[b]?) := fun a v ha b ho => Below.heap_setCell w' a v b (fun e => ha (e ▸ ho.2.2))
  obtain ⟨f, f1, f2⟩ := h.parts
  obtain ⟨g, g1, g2⟩ := h.held
  have f1' := f1.of_block (hb K.gp (by omega) (by omega))
  have g1' := g1.of_block (hb K.gh (by omega) (by omega))
  constructor
  · rintro i rfl hi v l hv
    have hset := rset ⟨K.gp, i * 6 + 5, none⟩ v (by show role' K.gp ≠ 0; omega)
    refine ⟨hbox.other (a := ⟨K.gp, i * 6 + 5, none⟩) hne.1 v, q1, q2, q3, low, fun b hb => hw b (by simpa using hb), by simp; omega, hin, ⟨_, f1'.set (i * 6 + 5) v, fun j hj => ?_⟩, ⟨_, g1'.setOther (a := ⟨K.gp, i * 6 + 5, none⟩) (fun e => hne.2.2 e.symm) v, fun j hj => ?_⟩, c1.keep fun b _ => hset b, c2.keep fun b _ => hset b, c3.keep fun b _ => hset b, h.plen⟩
    · obtain ⟨a1, a2, a3⟩ := f2 j hj
      by_cases e : j = i
      · subst e
        show _ = Value.int .i64 (upd s.parts j _ j).pc ∧ (∀ r, r < 4 → _ = Value.int .i64 ((upd s.parts j _ j).regs r)) ∧ RowW _ _ _ _ (upd s.parts j _ j).shown
        rw [upd_same]
        exact ⟨(if_neg (by omega)).trans a1, fun r hr => (if_neg (by omega)).trans (a2 r hr), by rw [if_pos rfl]; exact rows_store hv (a := ⟨K.gp, j * 6 + 5, none⟩) (by show role' K.gp ≠ _; omega) v⟩
      · show _ = Value.int .i64 (upd s.parts i _ j).pc ∧ (∀ r, r < 4 → _ = Value.int .i64 ((upd s.parts i _ j).regs r)) ∧ RowW _ _ _ _ (upd s.parts i _ j).shown
        rw [upd_other _ _ e]
        exact ⟨(if_neg (by omega)).trans a1, fun r hr => (if_neg (by omega)).trans (a2 r hr), by rw [if_neg (by omega)]; exact rows_store (a3.keep (fun b hb1 hc1 => hb b hb1 (by omega)) hr) (a := ⟨K.gp, i * 6 + 5, none⟩) (by show role' K.gp ≠ _; omega) v⟩
    · exact rows_store ((g2 j hj).keep (fun b hb1 hc1 => hb b hb1 (by omega)) hr) (a := ⟨K.gp, i * 6 + 5, none⟩) (by show role' K.gp ≠ _; omega) v
  · rintro j rfl hj v l hv
    have hset := rset ⟨K.gh, j, none⟩ v (by show role' K.gh ≠ 0; omega)
    refine ⟨hbox.other (a := ⟨K.gh, j, none⟩) hne.2.1 v, q1, q2, q3, low, fun b hb => hw b (by simpa using hb), by simp; omega, hin, ⟨_, f1'.setOther (a := ⟨K.gh, j, none⟩) hne.2.2 v, fun i hi => ?_⟩, ⟨_, g1'.set j v, fun i hi => ?_⟩, c1.keep fun b _ => hset b, c2.keep fun b _ => hset b, c3.keep fun b _ => hset b, h.plen⟩
    · obtain ⟨a1, a2, a3⟩ := f2 i hi
      exact ⟨a1, a2, rows_store (a3.keep (fun b hb1 hc1 => hb b hb1 (by omega)) hr) (a := ⟨K.gh, j, none⟩) (by show role' K.gh ≠ _; omega) v⟩
    · by_cases e : i = j
      · subst e
        show RowW _ _ _ _ (upd s.held i _ i)
        rw [upd_same, if_pos rfl]; exact rows_store hv (a := ⟨K.gh, i, none⟩) (by show role' K.gh ≠ _; omega) v
      · show RowW _ _ _ _ (upd s.held j _ i)
        rw [upd_other _ _ e, if_neg e]; exact rows_store ((g2 i hi).keep (fun b hb1 hc1 => hb b hb1 (by omega)) hr) (a := ⟨K.gh, j, none⟩) (by show role' K.gh ≠ _; omega) v
/-- A part's words. -/
theorem KernAt.part (h : KernAt role lo hi w p K L P q T s t) {i : Nat} (hi : i < L.length) : w.cell? ⟨K.gp, i * 6, none⟩ = some (.int .i64 (s.parts i).pc) ∧ (∀ r, r < 4 → w.cell? ⟨K.gp, i * 6 + 1 + r, none⟩ = some (.int .i64 ((s.parts i).regs r))) ∧ (∃ v, w.cell? ⟨K.gp, i * 6 + 5, none⟩ = some v ∧ RowW role (4 + 2 * i) w v (s.parts i).shown) ∧ ∀ k, w.frozen? ⟨K.gp, k, none⟩ = false := by
  obtain ⟨f, h1, h2⟩ := h.parts
  obtain ⟨a1, a2, a3⟩ := h2 i hi
  exact ⟨by rw [h1.cell (by omega), a1], fun r hr => by rw [h1.cell (by omega), a2 r hr], ⟨_, h1.cell (by omega), a3⟩, fun k => h1.frozen k⟩
theorem KernAt.port (h : KernAt role lo hi w p K L P q T s t) {j : Nat} (hj : j < q) : (∃ v, w.cell? ⟨K.gh, j, none⟩ = some v ∧ RowW role (5 + 2 * j) w v (s.held j)) ∧ ∀ k, w.frozen? ⟨K.gh, k, none⟩ = false := by
  obtain ⟨f, h1, h2⟩ := h.held
  exact ⟨⟨_, h1.cell hj, h2 j hj⟩, fun k => h1.frozen k⟩
end
end Go.Proofs.YtgkanbaboeppfaaDoor
