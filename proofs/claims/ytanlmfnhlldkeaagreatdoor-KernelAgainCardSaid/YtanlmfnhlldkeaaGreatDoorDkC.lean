/-
  The desk in memory; contracts: add, start, crash.
-/
import Derived.Test.YtanlmfnhlldkeaaGreatDoorDkB
import Derived.Test.YtanlmfnhlldkeaaGreatDoorTrO
namespace Go.Proofs.YtanlmfnhlldkeaaGreatDoor
open Go.RowKit
set_option maxRecDepth 100000
set_option linter.unusedVariables false

theorem QKeeps.wider {S S' : Nat → Prop} {w w' : World} (h : QKeeps S w w') (hs : ∀ b, S b → S' b) : QKeeps S' w w' := ⟨h.os, h.tape, h.output, h.size, fun b hb hn => h.block b hb (fun e => hn (hs b e))⟩
theorem TLen.runD {m n : Nat} {U F K : List Int} {T : TS} (h : TLen m n U F T) : ∀ k, TLen m n U F (tRun U F K T k)
  | 0 => h
  | k + 1 => by rw [tRun_succ]; exact (h.runD k).ask _ _ _ _
/-- A desk at b. -/
structure DkSt (lo : Nat) (own : Nat → Prop) (w : World) (b : Nat) (D : DS) (Uv Fv tp : Value) (tq : Nat → Prop) : Prop where
  box : BoxN w b 94 #[Uv, Fv, tp]
  rU : OwnL w lo Uv D.m D.U
  rF : OwnL w lo Fv D.n D.F
  ok : DOk D
  ob : own b
  oU : ∀ g, Uv.ownBlock = some g → own g ∧ g ≠ b ∧ ¬ tq g ∧ Fv.ownBlock ≠ some g
  oF : ∀ g, Fv.ownBlock = some g → own g ∧ g ≠ b ∧ ¬ tq g
  oT : ∀ g, tq g → own g ∧ g ≠ b
  lt : ∀ g, own g → g < w.heap.size
  low : ∀ g, own g → lo ≤ g
  tr : (D.T = none ∧ tp = .pointer none ∧ ∀ g, ¬ tq g) ∨ ∃ T bt p v A, D.T = some T ∧ tp = .pointer (some ⟨bt, 0, none⟩) ∧ TrailAt lo tq w bt p v A D.U D.F T
def DkAt (lo : Nat) (own : Nat → Prop) (w : World) (b : Nat) (D : DS) : Prop := ∃ Uv Fv tp tq, DkSt lo own w b D Uv Fv tp tq
/-- What the desk's functions hand on. -/
def DkPost (lo : Nat) (own : Nat → Prop) (w : World) (b : Nat) (r : DS × List UInt8) (e : Ending) (w' : World) : Prop :=
  e = .returned (.string ⟨r.2.toArray⟩) ∧ ∃ own', DkAt lo own' w' b r.1 ∧ (∀ g, own' g → own g ∨ w.heap.size ≤ g) ∧ QKeeps own w w'
section
variable {lo b : Nat} {own tq : Nat → Prop} {w w' : World} {D : DS} {Uv Fv tp : Value}
theorem DkSt.keep (h : DkSt lo own w b D Uv Fv tp tq) (hk : ∀ k, own k → w'.heap[k]? = w.heap[k]?) (hs : w.heap.size ≤ w'.heap.size) : DkSt lo own w' b D Uv Fv tp tq :=
  ⟨(hk b h.ob).trans h.box, h.rU.keep fun g hg => hk g (h.oU g hg).1, h.rF.keep fun g hg => hk g (h.oF g hg).1, h.ok, h.ob, h.oU, h.oF, h.oT, fun g hg => Nat.lt_of_lt_of_le (h.lt g hg) hs, h.low,
    h.tr.imp id fun ⟨T, bt, p, v, A, h1, h2, h3⟩ => ⟨T, bt, p, v, A, h1, h2, h3.keep (fun k hk' => hk k (h.oT k hk').1) hs⟩⟩
theorem DkAt.keep (h : DkAt lo own w b D) (hk : ∀ k, own k → w'.heap[k]? = w.heap[k]?) (hs : w.heap.size ≤ w'.heap.size) : DkAt lo own w' b D := by
  obtain ⟨Uv, Fv, tp, tq, h⟩ := h
  exact ⟨Uv, Fv, tp, tq, h.keep hk hs⟩
theorem DkAt.lt (h : DkAt lo own w b D) {k : Nat} (hk : own k) : k < w.heap.size := by obtain ⟨Uv, Fv, tp, tq, h⟩ := h; exact h.lt k hk
theorem DkAt.low (h : DkAt lo own w b D) {k : Nat} (hk : own k) : lo ≤ k := by obtain ⟨Uv, Fv, tp, tq, h⟩ := h; exact h.low k hk
theorem DkAt.ok (h : DkAt lo own w b D) : DOk D := by obtain ⟨Uv, Fv, tp, tq, h⟩ := h; exact h.ok
theorem DkAt.ob (h : DkAt lo own w b D) : own b := by obtain ⟨Uv, Fv, tp, tq, h⟩ := h; exact h.ob
theorem DkAt.below (h : DkAt lo own w b D) (hb : Below w.heap.size w w') : DkAt lo own w' b D := h.keep (fun k hk => hb.block k (h.lt hk)) hb.size
theorem DkAt.keeps (h : DkAt lo own w b D) {S : Nat → Prop} (hq : QKeeps S w w') (hS : ∀ k, own k → ¬ S k) : DkAt lo own w' b D := h.keep (fun k hk => hq.block k (h.lt hk) (hS k hk)) hq.size
theorem DkPost.same (h : DkAt lo own w b D) (hb : Below w.heap.size w w') (l : List UInt8) : DkPost lo own w b (D, l) (.returned (.string ⟨l.toArray⟩)) w' :=
  ⟨rfl, own, h.below hb, fun g hg => .inl hg, QKeeps.of_below hb⟩
theorem DkPost.next {w0 : World} {r : DS × List UInt8} {e : Ending} (h : DkAt lo own w0 b D) (hb : Below w0.heap.size w0 w) (hp : DkPost lo own w b r e w') : DkPost lo own w0 b r e w' := by
  obtain ⟨he, own', h1, h2, h3⟩ := hp
  exact ⟨he, own', h1, fun g hg => (h2 g hg).imp id fun x => Nat.le_trans hb.size x, (QKeeps.of_below (S := own) hb).trans h3 fun g hg => .inl hg⟩
theorem DkPost.back {r : DS × List UInt8} {e : Ending} {w2 : World} (hp : DkPost lo own w b r e w') (hb : Below w'.heap.size w' w2) : DkPost lo own w b r e w2 := by
  obtain ⟨he, own', h1, h2, h3⟩ := hp
  exact ⟨he, own', h1.below hb, h2, h3.trans (QKeeps.of_below (S := own) hb) fun g hg => .inl hg⟩
/-- No more than is needed. -/
theorem DkAt.tight (h : DkAt lo own w b D) : ∃ own', DkAt lo own' w b D ∧ CellsIn own' w ∧ ∀ k, own' k → own k := by
  obtain ⟨Uv, Fv, tp, tq, h⟩ := h
  obtain ⟨tq', h1, h2, h3⟩ : ∃ tq' : Nat → Prop, (∀ g, tq' g → tq g) ∧ CellsIn tq' w ∧ ((D.T = none ∧ tp = .pointer none ∧ ∀ g, ¬ tq' g) ∨ ∃ T bt p v A, D.T = some T ∧ tp = .pointer (some ⟨bt, 0, none⟩) ∧ TrailAt lo tq' w bt p v A D.U D.F T) := by
    rcases h.tr with ⟨h1, h2, h3⟩ | ⟨T, bt, p, v, A, h1, h2, h3⟩
    · exact ⟨fun _ => False, fun g hg => hg.elim, fun k hk => hk.elim, .inl ⟨h1, h2, fun g hg => hg⟩⟩
    · obtain ⟨t1, t2, t3⟩ := h3.tight
      exact ⟨_, t3, t2, .inr ⟨T, bt, p, v, A, h1, h2, t1⟩⟩
  have hin : ∀ k, (k = b ∨ Uv.ownBlock = some k ∨ Fv.ownBlock = some k ∨ tq' k) → own k := by
    rintro k (rfl | hk | hk | hk)
    · exact h.ob
    · exact (h.oU k hk).1
    · exact (h.oF k hk).1
    · exact (h.oT k (h1 k hk)).1
  refine ⟨fun k => k = b ∨ Uv.ownBlock = some k ∨ Fv.ownBlock = some k ∨ tq' k, ⟨Uv, Fv, tp, tq', h.box, h.rU, h.rF, h.ok, .inl rfl, fun g hg => ⟨.inr (.inl hg), (h.oU g hg).2.1, fun hh => (h.oU g hg).2.2.1 (h1 g hh), (h.oU g hg).2.2.2⟩, fun g hg => ⟨.inr (.inr (.inl hg)), (h.oF g hg).2.1, fun hh => (h.oF g hg).2.2 (h1 g hh)⟩, fun g hg => ⟨.inr (.inr (.inr hg)), (h.oT g (h1 g hg)).2⟩, fun g hg => h.lt g (hin g hg), fun g hg => h.low g (hin g hg), h3⟩, ?_, hin⟩
  rintro k (rfl | hk | hk | hk)
  · exact ⟨_, h.box, rfl⟩
  · exact h.rU.cells hk
  · exact h.rF.cells hk
  · exact h2 k hk
theorem DkAt.own_but (h : DkAt lo own w b D) (hc : CellsIn own w) {C B : Nat} (hC : ¬ own C) {row : Option Nat} (hg : w.grownBy w' row) (hr : ∀ r, row = some r → r = C ∨ (B ≤ r ∧ ∃ o : Obj, w.heap[r]? = some o ∧ o.isCells = false)) :
    DkAt lo own w' b D ∧ CellsIn own w' := by
  have hk : ∀ k, own k → w'.heap[k]? = w.heap[k]? := fun k hk => hg.block k (h.lt hk) (fun e => by
    rcases hr k e.symm with e | ⟨_, o, ho, hn⟩
    · subst e; exact hC hk
    · obtain ⟨o', ho', hy⟩ := hc k hk
      rw [ho] at ho'
      injection ho' with ho'
      subst ho'
      rw [hn] at hy
      cases hy)
  exact ⟨h.keep hk hg.size, fun k hk' => by rw [hk k hk']; exact hc k hk'⟩
theorem DkSt.tlen (h : DkSt lo own w b D Uv Fv tp tq) {T : TS} (hT : D.T = some T) : TLen D.m D.n D.U D.F T := by
  obtain ⟨K, n, rfl⟩ := h.ok.tr T hT
  exact (TLen.start h.ok.m8 h.ok.n8).runD n
/-- Behind a store into one of the two rows. -/
theorem DkSt.addU {v' : Value} {l s : Nat} {w2 : World} (h : DkSt lo own w b D Uv Fv tp tq) (hlo : lo ≤ w.heap.size) (hT : D.T = none) (hO : OwnL w2 lo v' (D.m + 1) (D.U ++ [(l : Int), (s : Int)])) (hnb : v'.ownBlock ≠ some b) (hok : DOk ⟨D.U ++ [(l : Int), (s : Int)], D.F, D.T⟩)
    (hg : ∀ g, v'.ownBlock = some g → Uv.ownBlock = some g ∨ w.heap.size ≤ g) (hq : QKeeps (fun g => Uv.ownBlock = some g) w w2) (lb : List UInt8) :
    DkPost lo own w b (⟨D.U ++ [(l : Int), (s : Int)], D.F, D.T⟩, lb) (.returned (.string ⟨lb.toArray⟩)) (w2.setCell ⟨b, 0, none⟩ v') := by
  have hU : ∀ k, own k → Uv.ownBlock ≠ some k → w2.heap[k]? = w.heap[k]? := fun k hk hn => hq.block k (h.lt k hk) hn
  have hto : ∀ g, ¬ tq g := by
    rcases h.tr with ⟨_, _, h3⟩ | ⟨T, _, _, _, _, h1, _⟩
    · exact h3
    · rw [hT] at h1; cases h1
  have htp : tp = .pointer none := by
    rcases h.tr with ⟨_, h3, _⟩ | ⟨T, _, _, _, _, h1, _⟩
    · exact h3
    · rw [hT] at h1; cases h1
  have hbx : BoxN w2 b 94 #[Uv, Fv, tp] := (hU b h.ob (fun e => (h.oU b e).2.1 rfl)).trans h.box
  have hbx2 := hbx.set 0 v'
  have hne : ∀ k, k ≠ b → (w2.setCell ⟨b, 0, none⟩ v').heap[k]? = w2.heap[k]? := fun k hk => Below.heap_setCell w2 ⟨b, 0, none⟩ v' k hk
  have hm : (DS.m ⟨D.U ++ [(l : Int), (s : Int)], D.F, D.T⟩) = D.m + 1 := by
    unfold DS.m
    dsimp only
    rw [List.length_append, show [(l : Int), (s : Int)].length = 2 from rfl]
    omega
  refine ⟨rfl, fun g => own g ∨ v'.ownBlock = some g, ⟨v', Fv, tp, tq, hbx2, ?_, ?_, hok, .inl h.ob, ?_, ?_, fun g hg => absurd hg (hto g), ?_, ?_, .inl ⟨hT, htp, hto⟩⟩, ?_, ?_⟩
  · rw [hm]
    exact hO.keep fun g hg => hne g (fun e => hnb (e ▸ hg))
  · exact h.rF.keep fun g hg => by
      obtain ⟨f1, f2, f3⟩ := h.oF g hg
      rw [hne g f2]
      exact hU g f1 (fun e => (h.oU g e).2.2.2 hg)
  · intro g hgv
    refine ⟨.inr hgv, fun e => hnb (e ▸ hgv), hto g, fun hf => ?_⟩
    rcases hg g hgv with e | e
    · exact (h.oU g e).2.2.2 hf
    · have := h.lt g (h.oF g hf).1
      omega
  · intro g hgf
    exact ⟨.inl (h.oF g hgf).1, (h.oF g hgf).2.1, hto g⟩
  · rintro g (hg' | hg')
    · have := h.lt g hg'; have := hq.size; simp; omega
    · have := (hO.lt hg').2; simp; omega
  · rintro g (hg' | hg')
    · exact h.low g hg'
    · exact (hO.lt hg').1
  · rintro g (hg' | hg')
    · exact .inl hg'
    · rcases hg g hg' with e | e
      · exact .inl (h.oU g e).1
      · exact .inr e
  · exact (hq.wider fun g hg => (h.oU g hg).1).setCell (p := ⟨b, 0, none⟩) h.ob v'
theorem DkSt.addF {v' : Value} {l s : Nat} {w2 : World} (h : DkSt lo own w b D Uv Fv tp tq) (hlo : lo ≤ w.heap.size) (hT : D.T = none) (hO : OwnL w2 lo v' (D.n + 1) (D.F ++ [(l : Int), (s : Int)])) (hnb : v'.ownBlock ≠ some b) (hok : DOk ⟨D.U, D.F ++ [(l : Int), (s : Int)], D.T⟩)
    (hg : ∀ g, v'.ownBlock = some g → Fv.ownBlock = some g ∨ w.heap.size ≤ g) (hq : QKeeps (fun g => Fv.ownBlock = some g) w w2) (lb : List UInt8) :
    DkPost lo own w b (⟨D.U, D.F ++ [(l : Int), (s : Int)], D.T⟩, lb) (.returned (.string ⟨lb.toArray⟩)) (w2.setCell ⟨b, 1, none⟩ v') := by
  have hU : ∀ k, own k → Fv.ownBlock ≠ some k → w2.heap[k]? = w.heap[k]? := fun k hk hn => hq.block k (h.lt k hk) hn
  have hto : ∀ g, ¬ tq g := by
    rcases h.tr with ⟨_, _, h3⟩ | ⟨T, _, _, _, _, h1, _⟩
    · exact h3
    · rw [hT] at h1; cases h1
  have htp : tp = .pointer none := by
    rcases h.tr with ⟨_, h3, _⟩ | ⟨T, _, _, _, _, h1, _⟩
    · exact h3
    · rw [hT] at h1; cases h1
  have hbx : BoxN w2 b 94 #[Uv, Fv, tp] := (hU b h.ob (fun e => (h.oF b e).2.1 rfl)).trans h.box
  have hbx2 := hbx.set 1 v'
  have hne : ∀ k, k ≠ b → (w2.setCell ⟨b, 1, none⟩ v').heap[k]? = w2.heap[k]? := fun k hk => Below.heap_setCell w2 ⟨b, 1, none⟩ v' k hk
  have hm : (DS.n ⟨D.U, D.F ++ [(l : Int), (s : Int)], D.T⟩) = D.n + 1 := by
    unfold DS.n
    dsimp only
    rw [List.length_append, show [(l : Int), (s : Int)].length = 2 from rfl]
    omega
  refine ⟨rfl, fun g => own g ∨ v'.ownBlock = some g, ⟨Uv, v', tp, tq, hbx2, ?_, ?_, hok, .inl h.ob, ?_, ?_, fun g hg => absurd hg (hto g), ?_, ?_, .inl ⟨hT, htp, hto⟩⟩, ?_, ?_⟩
  · exact h.rU.keep fun g hg => by
      obtain ⟨f1, f2, f3, f4⟩ := h.oU g hg
      rw [hne g f2]
      exact hU g f1 f4
  · rw [hm]
    exact hO.keep fun g hg => hne g (fun e => hnb (e ▸ hg))
  · intro g hgu
    refine ⟨.inl (h.oU g hgu).1, (h.oU g hgu).2.1, hto g, fun hf => ?_⟩
    rcases hg g hf with e | e
    · exact (h.oU g hgu).2.2.2 e
    · have := h.lt g (h.oU g hgu).1
      omega
  · intro g hgv
    exact ⟨.inr hgv, fun e => hnb (e ▸ hgv), hto g⟩
  · rintro g (hg' | hg')
    · have := h.lt g hg'; have := hq.size; simp; omega
    · have := (hO.lt hg').2; simp; omega
  · rintro g (hg' | hg')
    · exact h.low g hg'
    · exact (hO.lt hg').1
  · rintro g (hg' | hg')
    · exact .inl hg'
    · rcases hg g hg' with e | e
      · exact .inl (h.oF g e).1
      · exact .inr e
  · exact (hq.wider fun g hg => (h.oF g hg).1).setCell (p := ⟨b, 1, none⟩) h.ob v'
/-- Another trail. -/
theorem DkSt.swap (h : DkSt lo own w b D Uv Fv tp tq) {w1 w2 : World} {bt p : Nat} {v : Value} {A : LA} {T : TS} {tn : Nat → Prop} (hq : QKeeps tq w w1) (hbx : BoxN w2 b 94 #[Uv, Fv, .pointer (some ⟨bt, 0, none⟩)]) (hne : ∀ k, k ≠ b → w2.heap[k]? = w1.heap[k]?) (hs : w1.heap.size = w2.heap.size)
    (hT : TrailAt lo tn w1 bt p v A D.U D.F T) (hn : ∀ g, tn g → tq g ∨ w.heap.size ≤ g) (hok : DOk ⟨D.U, D.F, some T⟩) : DkSt lo (fun g => own g ∨ tn g) w2 b ⟨D.U, D.F, some T⟩ Uv Fv (.pointer (some ⟨bt, 0, none⟩)) tn := by
  have hk : ∀ k, own k → k ≠ b → ¬ tq k → w2.heap[k]? = w.heap[k]? := fun k h1 h2 h3 => (hne k h2).trans (hq.block k (h.lt k h1) h3)
  have hnn : ∀ k, own k → ¬ tq k → ¬ tn k := fun k h1 h2 h3 => by
    rcases hn k h3 with e | e
    · exact h2 e
    · have := h.lt k h1
      omega
  have hnb : ∀ k, tn k → k ≠ b := fun k h3 => by
    rcases hn k h3 with e | e
    · exact (h.oT k e).2
    · have := h.lt b h.ob
      omega
  refine ⟨hbx, h.rU.keep fun g hg => hk g (h.oU g hg).1 (h.oU g hg).2.1 (h.oU g hg).2.2.1, h.rF.keep fun g hg => hk g (h.oF g hg).1 (h.oF g hg).2.1 (h.oF g hg).2.2, hok, .inl h.ob,
    fun g hg => ⟨.inl (h.oU g hg).1, (h.oU g hg).2.1, hnn g (h.oU g hg).1 (h.oU g hg).2.2.1, (h.oU g hg).2.2.2⟩, fun g hg => ⟨.inl (h.oF g hg).1, (h.oF g hg).2.1, hnn g (h.oF g hg).1 (h.oF g hg).2.2⟩,
    fun g hg => ⟨.inr hg, hnb g hg⟩, ?_, ?_, .inr ⟨T, bt, p, v, A, rfl, rfl, hT.keep (fun k hk' => hne k (hnb k hk')) (by omega)⟩⟩
  · rintro g (hg | hg)
    · have := h.lt g hg; have := hq.size; omega
    · have := hT.lt g hg; omega
  · rintro g (hg | hg)
    · exact h.low g hg
    · exact hT.low g hg
/-- Another trail in the same place. -/
theorem DkSt.stay {bt p : Nat} {v : Value} {A : LA} {T : TS} {tn : Nat → Prop} {w1 : World} (h : DkSt lo own w b D Uv Fv (.pointer (some ⟨bt, 0, none⟩)) tq) (hq : QKeeps tq w w1) (hT : TrailAt lo tn w1 bt p v A D.U D.F T) (hn : ∀ g, tn g → tq g ∨ w.heap.size ≤ g) (hok : DOk ⟨D.U, D.F, some T⟩) :
    DkSt lo (fun g => own g ∨ tn g) w1 b ⟨D.U, D.F, some T⟩ Uv Fv (.pointer (some ⟨bt, 0, none⟩)) tn :=
  h.swap hq (hq.box h.box fun e => (h.oT b e).2 rfl) (fun _ _ => rfl) rfl hT hn hok
/-- A trail is stored. -/
theorem DkSt.store {bt p : Nat} {v : Value} {A : LA} {T : TS} {tn : Nat → Prop} {w1 : World} (h : DkSt lo own w b D Uv Fv tp tq) (hq : QKeeps tq w w1) (hT : TrailAt lo tn w1 bt p v A D.U D.F T) (hn : ∀ g, tn g → tq g ∨ w.heap.size ≤ g) (hok : DOk ⟨D.U, D.F, some T⟩) :
    DkSt lo (fun g => own g ∨ tn g) (w1.setCell ⟨b, 2, none⟩ (.pointer (some ⟨bt, 0, none⟩))) b ⟨D.U, D.F, some T⟩ Uv Fv (.pointer (some ⟨bt, 0, none⟩)) tn :=
  h.swap hq ((hq.box h.box fun e => (h.oT b e).2 rfl).set 2 _) (fun k hk => Below.heap_setCell w1 ⟨b, 2, none⟩ _ k hk) (by simp) hT hn hok
theorem DkSt.post {D2 : DS} {Uv2 Fv2 tp2 : Value} {tn : Nat → Prop} {w1 : World} {lb : List UInt8} {S : Nat → Prop} (h2 : DkSt lo (fun g => own g ∨ tn g) w1 b D2 Uv2 Fv2 tp2 tn) (hq : QKeeps S w w1) (hS : ∀ g, S g → own g) (hn : ∀ g, tn g → own g ∨ w.heap.size ≤ g) :
    DkPost lo own w b (D2, lb) (.returned (.string ⟨lb.toArray⟩)) w1 :=
  ⟨rfl, _, ⟨_, _, _, _, h2⟩, fun g hg => hg.elim .inl (hn g), hq.wider hS⟩
/-- Add, users. -/
theorem AddU_any {x : ByteArray} (h : DkAt lo own w b D) (hE : ErrT w) (hlo : lo ≤ w.heap.size) (hx : x.size < 2 ^ 48) :
    Calls Tryz.prog 58 #[.pointer (some ⟨b, 0, none⟩), .pointer (some ⟨b, 0, none⟩), .int .i64 8, .string x] w (DkPost lo own w b (dAddU D x.data.toList)) := by
  have hd := h
  obtain ⟨Uv, Fv, tp, tq, h⟩ := h
  have hokA := h.ok.addU x.data.toList
  unfold dAddU at hokA ⊢
  cases hp : parseV x.data.toList with
  | none => exact (Add_bad hE hx hp).mono (by rintro e w' ⟨rfl, hb⟩; exact DkPost.same hd hb _)
  | some lx =>
    obtain ⟨l, s⟩ := lx
    rw [hp] at hokA
    dsimp only at hokA ⊢
    rcases h.tr with ⟨hT, htp, hto⟩ | ⟨T, bt, p, v, A, hT, htp, hTr⟩
    · have hn : ¬ D.T.isSome = true := by rw [hT]; decide
      rw [if_neg hn] at hokA ⊢
      subst htp
      obtain ⟨A, cc, hUv, hI⟩ := h.rU.form
      subst hUv
      by_cases h8 : D.m = 8
      · have ck : w.cell? ⟨b, 0, none⟩ = some (.slice A D.m cc) := h.box.cell rfl
        rw [h8] at ck
        rw [if_pos h8]
        exact (Add_full hx hp (h.box.cell rfl) ck).mono (by rintro e w' ⟨rfl, hb⟩; exact DkPost.same hd hb _)
      · rw [if_neg h8] at hokA ⊢
        refine (Add_push hx hp h.box (h.box.cell rfl) (by have := h.ok.m8; omega) h.rU hlo).mono ?_
        rintro e w' ⟨rfl, v', w2, hO, hnb, hbx2, rfl, hg, hq⟩
        exact h.addU hlo hT hO hnb hokA hg hq okL
    · rw [if_pos (by rw [hT]; rfl)]
      subst htp
      exact (Add_state hx hp (h.box.cell rfl)).mono (by rintro e w' ⟨rfl, hb⟩; exact DkPost.same hd hb _)
/-- Add, files. -/
theorem AddF_any {x : ByteArray} (h : DkAt lo own w b D) (hE : ErrT w) (hlo : lo ≤ w.heap.size) (hx : x.size < 2 ^ 48) :
    Calls Tryz.prog 58 #[.pointer (some ⟨b, 0, none⟩), .pointer (some ⟨b, 1, none⟩), .int .i64 8, .string x] w (DkPost lo own w b (dAddF D x.data.toList)) := by
  have hd := h
  obtain ⟨Uv, Fv, tp, tq, h⟩ := h
  have hokA := h.ok.addF x.data.toList
  unfold dAddF at hokA ⊢
  cases hp : parseV x.data.toList with
  | none => exact (Add_bad hE hx hp).mono (by rintro e w' ⟨rfl, hb⟩; exact DkPost.same hd hb _)
  | some lx =>
    obtain ⟨l, s⟩ := lx
    rw [hp] at hokA
    dsimp only at hokA ⊢
    rcases h.tr with ⟨hT, htp, hto⟩ | ⟨T, bt, p, v, A, hT, htp, hTr⟩
    · have hn : ¬ D.T.isSome = true := by rw [hT]; decide
      rw [if_neg hn] at hokA ⊢
      subst htp
      obtain ⟨A, cc, hFv, hI⟩ := h.rF.form
      subst hFv
      by_cases h8 : D.n = 8
      · have ck : w.cell? ⟨b, 1, none⟩ = some (.slice A D.n cc) := h.box.cell rfl
        rw [h8] at ck
        rw [if_pos h8]
        exact (Add_full hx hp (h.box.cell rfl) ck).mono (by rintro e w' ⟨rfl, hb⟩; exact DkPost.same hd hb _)
      · rw [if_neg h8] at hokA ⊢
        refine (Add_push hx hp h.box (h.box.cell rfl) (by have := h.ok.n8; omega) h.rF hlo).mono ?_
        rintro e w' ⟨rfl, v', w2, hO, hnb, hbx2, rfl, hg, hq⟩
        exact h.addF hlo hT hO hnb hokA hg hq okL
    · rw [if_pos (by rw [hT]; rfl)]
      subst htp
      exact (Add_state hx hp (h.box.cell rfl)).mono (by rintro e w' ⟨rfl, hb⟩; exact DkPost.same hd hb _)
set_option maxHeartbeats 1000000 in
/-- Start. -/
theorem Start_any (h : DkAt lo own w b D) (hlo : lo ≤ w.heap.size) :
    Calls Tryz.prog 59 #[.pointer (some ⟨b, 0, none⟩)] w (DkPost lo own w b (dStart D)) := by
  have hd := h
  obtain ⟨Uv, Fv, tp, tq, h⟩ := h
  have hokA := h.ok.start
  unfold dStart at hokA ⊢
  rcases h.tr with ⟨hT, htp, hto⟩ | ⟨T, bt, p, v, A, hT, htp, hTr⟩
  · have hn : ¬ D.T.isSome = true := by rw [hT]; decide
    rw [if_neg hn, if_pos h.ok.code] at hokA ⊢
    subst htp
    obtain ⟨A, cc, hUv, hI⟩ := h.rU.form
    obtain ⟨A', cc', hFv, hI'⟩ := h.rF.form
    subst hUv hFv
    have hL := h.ok.labs
    have CN := Lib.hid (fun V (hV : Below w.heap.size w V) => TNew_ok D.U D.F D.m D.n hL.lU hL.lF A A' cc cc' V (hI.below hV) (hI'.below hV) hL.cu hL.cf)
    have hbd : Below w.heap.size w w.drew := (Below.refl _ _).drew
    have CT := Lib.hid (fun V => dkTold_nil V)
    have c0 : w.cell? ⟨b, 0, none⟩ = some (.slice A D.m cc) := h.box.cell rfl
    have c1 : w.cell? ⟨b, 1, none⟩ = some (.slice A' D.n cc') := h.box.cell rfl
    have c2 : w.cell? ⟨b, 2, none⟩ = some (.pointer none) := h.box.cell rfl
    have H := Lib.hid h
    have Hok := Lib.hid hokA
    clear h hd hokA hI hI' hL
    generalize D.m = m at *
    generalize D.n = n at *
    go_enter Tryz.func59, Tryz.ntmps59
    go_wp2_with fail
    go_region_with (go_at_call 81; with_reducible refine (CN.out _ hbd).mono ?_; rintro e w1 ⟨⟨bt, p, v, A2, tn, rfl, hTr⟩, hb1⟩; have HTr := Lib.hid hTr; clear hTr; have hb1' := hbd.trans (hb1.mono hbd.size); have hbx1 := H.out.box.all hb1'; have f2 := hbx1.free 2; have c21 : w1.cell? ⟨b, 2, none⟩ = some (.pointer none) := hbx1.cell rfl)
    all_goals
      go_wp2_with fail
      with_reducible refine (CT.out _).mono ?_
      rintro e w3 ⟨rfl, hb3⟩
      go_wp2_with fail
      go_ret
      have hq : QKeeps tq w w1 := QKeeps.of_below hb1'
      have hn' : ∀ g, tn g → tq g ∨ w.heap.size ≤ g := fun g hg => .inr (Nat.le_trans hbd.size (HTr.out.low g hg))
      have hn'' : ∀ g, tn g → own g ∨ w.heap.size ≤ g := fun g hg => .inr (Nat.le_trans hbd.size (HTr.out.low g hg))
      exact (DkSt.post (H.out.store hq (HTr.out.lower (Nat.le_trans hlo hbd.size)) hn' Hok.out) ((hq.wider fun g hg => (H.out.oT g hg).1).setCell (p := ⟨b, 2, none⟩) H.out.ob _) (fun g hg => hg) hn'').back hb3
  · rw [if_pos (by rw [hT]; rfl)]
    subst htp
    have c2 : w.cell? ⟨b, 2, none⟩ = some (.pointer (some ⟨bt, 0, none⟩)) := h.box.cell rfl
    have H := Lib.hid hd
    clear h hd hokA hTr hT
    go_enter Tryz.func59, Tryz.ntmps59
    go_wp2_with fail
    go_ret
    exact DkPost.same H.out (Below.refl _ _) _
end
end Go.Proofs.YtanlmfnhlldkeaaGreatDoor
