/-
  The desk in memory; contracts: add, start, crash.
  Contract: (*desk.desk).crash.
  A map of four texts, built and read at once.
  Contracts: act's closures.
  The maps of (*desk.desk).act.
  An append of one number, that leaves what the row held where it was.
-/
import Derived.Test.YtanlmfnhlldkeaaGreatDoorDkB
import Derived.Test.YtanlmfnhlldkeaaGreatDoorTrO
import Derived.Deep.RegionHeld3
import Derived.Deep.CutRange
import Derived.Test.YtanlmfnhlldkeaaGreatDoorDkNA
import Derived.MapFrom
import Derived.Test.YtanlmfnhlldkeaaGreatDoorRowsA
import Derived.Deep.RegionLaw
import Derived.Deep.RegionHeld
namespace Go.Proofs.YtanlmfnhlldkeaaGreatDoor
open Go.RowKit
set_option maxRecDepth 100000
set_option linter.unusedVariables false

theorem QKeeps.wider {S S' : Nat → Prop} {w w' : World} (h : QKeeps S w w') (hs : ∀ b, S b → S' b) : QKeeps S' w w' := ⟨h.os, h.tape, h.output, h.size, fun b hb hn => h.block b hb (fun e => hn (hs b e))⟩
theorem TLen.runD {m n : Nat} {U F K : List Int} {T : TS} (h : TLen m n U F T) : ∀ k, TLen m n U F (tRun U F K T k)
  | 0 => h
  | k + 1 => by rw [tRun_succ]; exact (h.runD k).ask _ _ _ _
/-- A desk at b. -/
structure DkSt (lo : Nat) (own : Nat → Prop) (w : World) (b : Nat) (D : DS) (Uv Fv tp : Value) (tq : Nat → Prop) : Prop where
  box : BoxN w b 94 #[Uv, Fv, tp]
  rU : OwnL w lo Uv D.m D.U
  rF : OwnL w lo Fv D.n D.F
  ok : DOk D
  ob : own b
  oU : ∀ g, Uv.ownBlock = some g → own g ∧ g ≠ b ∧ ¬ tq g ∧ Fv.ownBlock ≠ some g
  oF : ∀ g, Fv.ownBlock = some g → own g ∧ g ≠ b ∧ ¬ tq g
  oT : ∀ g, tq g → own g ∧ g ≠ b
  lt : ∀ g, own g → g < w.heap.size
  low : ∀ g, own g → lo ≤ g
  tr : (D.T = none ∧ tp = .pointer none ∧ ∀ g, ¬ tq g) ∨ ∃ T bt p v A, D.T = some T ∧ tp = .pointer (some ⟨bt, 0, none⟩) ∧ TrailAt lo tq w bt p v A D.U D.F T
def DkAt (lo : Nat) (own : Nat → Prop) (w : World) (b : Nat) (D : DS) : Prop := ∃ Uv Fv tp tq, DkSt lo own w b D Uv Fv tp tq
/-- What the desk's functions hand on. -/
def DkPost (lo : Nat) (own : Nat → Prop) (w : World) (b : Nat) (r : DS × List UInt8) (e : Ending) (w' : World) : Prop :=
  e = .returned (.string ⟨r.2.toArray⟩) ∧ ∃ own', DkAt lo own' w' b r.1 ∧ (∀ g, own' g → own g ∨ w.heap.size ≤ g) ∧ QKeeps own w w'
section
variable {lo b : Nat} {own tq : Nat → Prop} {w w' : World} {D : DS} {Uv Fv tp : Value}
theorem DkSt.keep (h : DkSt lo own w b D Uv Fv tp tq) (hk : ∀ k, own k → w'.heap[k]? = w.heap[k]?) (hs : w.heap.size ≤ w'.heap.size) : DkSt lo own w' b D Uv Fv tp tq :=
  ⟨(hk b h.ob).trans h.box, h.rU.keep fun g hg => hk g (h.oU g hg).1, h.rF.keep fun g hg => hk g (h.oF g hg).1, h.ok, h.ob, h.oU, h.oF, h.oT, fun g hg => Nat.lt_of_lt_of_le (h.lt g hg) hs, h.low,
    h.tr.imp id fun ⟨T, bt, p, v, A, h1, h2, h3⟩ => ⟨T, bt, p, v, A, h1, h2, h3.keep (fun k hk' => hk k (h.oT k hk').1) hs⟩⟩
theorem DkAt.keep (h : DkAt lo own w b D) (hk : ∀ k, own k → w'.heap[k]? = w.heap[k]?) (hs : w.heap.size ≤ w'.heap.size) : DkAt lo own w' b D := by
  obtain ⟨Uv, Fv, tp, tq, h⟩ := h
  exact ⟨Uv, Fv, tp, tq, h.keep hk hs⟩
theorem DkAt.lt (h : DkAt lo own w b D) {k : Nat} (hk : own k) : k < w.heap.size := by obtain ⟨Uv, Fv, tp, tq, h⟩ := h; exact h.lt k hk
theorem DkAt.low (h : DkAt lo own w b D) {k : Nat} (hk : own k) : lo ≤ k := by obtain ⟨Uv, Fv, tp, tq, h⟩ := h; exact h.low k hk
theorem DkAt.ok (h : DkAt lo own w b D) : DOk D := by obtain ⟨Uv, Fv, tp, tq, h⟩ := h; exact h.ok
theorem DkAt.ob (h : DkAt lo own w b D) : own b := by obtain ⟨Uv, Fv, tp, tq, h⟩ := h; exact h.ob
theorem DkAt.below (h : DkAt lo own w b D) (hb : Below w.heap.size w w') : DkAt lo own w' b D := h.keep (fun k hk => hb.block k (h.lt hk)) hb.size
theorem DkAt.keeps (h : DkAt lo own w b D) {S : Nat → Prop} (hq : QKeeps S w w') (hS : ∀ k, own k → ¬ S k) : DkAt lo own w' b D := h.keep (fun k hk => hq.block k (h.lt hk) (hS k hk)) hq.size
theorem DkPost.same (h : DkAt lo own w b D) (hb : Below w.heap.size w w') (l : List UInt8) : DkPost lo own w b (D, l) (.returned (.string ⟨l.toArray⟩)) w' :=
  ⟨rfl, own, h.below hb, fun g hg => .inl hg, QKeeps.of_below hb⟩
theorem DkPost.next {w0 : World} {r : DS × List UInt8} {e : Ending} (h : DkAt lo own w0 b D) (hb : Below w0.heap.size w0 w) (hp : DkPost lo own w b r e w') : DkPost lo own w0 b r e w' := by
  obtain ⟨he, own', h1, h2, h3⟩ := hp
  exact ⟨he, own', h1, fun g hg => (h2 g hg).imp id fun x => Nat.le_trans hb.size x, (QKeeps.of_below (S := own) hb).trans h3 fun g hg => .inl hg⟩
theorem DkPost.back {r : DS × List UInt8} {e : Ending} {w2 : World} (hp : DkPost lo own w b r e w') (hb : Below w'.heap.size w' w2) : DkPost lo own w b r e w2 := by
  obtain ⟨he, own', h1, h2, h3⟩ := hp
  exact ⟨he, own', h1.below hb, h2, h3.trans (QKeeps.of_below (S := own) hb) fun g hg => .inl hg⟩
/-- No more than is needed. -/
theorem DkAt.tight (h : DkAt lo own w b D) : ∃ own', DkAt lo own' w b D ∧ CellsIn own' w ∧ ∀ k, own' k → own k := by
  obtain ⟨Uv, Fv, tp, tq, h⟩ := h
  obtain ⟨tq', h1, h2, h3⟩ : ∃ tq' : Nat → Prop, (∀ g, tq' g → tq g) ∧ CellsIn tq' w ∧ ((D.T = none ∧ tp = .pointer none ∧ ∀ g, ¬ tq' g) ∨ ∃ T bt p v A, D.T = some T ∧ tp = .pointer (some ⟨bt, 0, none⟩) ∧ TrailAt lo tq' w bt p v A D.U D.F T) := by
    rcases h.tr with ⟨h1, h2, h3⟩ | ⟨T, bt, p, v, A, h1, h2, h3⟩
    · exact ⟨fun _ => False, fun g hg => hg.elim, fun k hk => hk.elim, .inl ⟨h1, h2, fun g hg => hg⟩⟩
    · obtain ⟨t1, t2, t3⟩ := h3.tight
      exact ⟨_, t3, t2, .inr ⟨T, bt, p, v, A, h1, h2, t1⟩⟩
  have hin : ∀ k, (k = b ∨ Uv.ownBlock = some k ∨ Fv.ownBlock = some k ∨ tq' k) → own k := by
    rintro k (rfl | hk | hk | hk)
    · exact h.ob
    · exact (h.oU k hk).1
    · exact (h.oF k hk).1
    · exact (h.oT k (h1 k hk)).1
  refine ⟨fun k => k = b ∨ Uv.ownBlock = some k ∨ Fv.ownBlock = some k ∨ tq' k, ⟨Uv, Fv, tp, tq', h.box, h.rU, h.rF, h.ok, .inl rfl, fun g hg => ⟨.inr (.inl hg), (h.oU g hg).2.1, fun hh => (h.oU g hg).2.2.1 (h1 g hh), (h.oU g hg).2.2.2⟩, fun g hg => ⟨.inr (.inr (.inl hg)), (h.oF g hg).2.1, fun hh => (h.oF g hg).2.2 (h1 g hh)⟩, fun g hg => ⟨.inr (.inr (.inr hg)), (h.oT g (h1 g hg)).2⟩, fun g hg => h.lt g (hin g hg), fun g hg => h.low g (hin g hg), h3⟩, ?_, hin⟩
  rintro k (rfl | hk | hk | hk)
  · exact ⟨_, h.box, rfl⟩
  · exact h.rU.cells hk
  · exact h.rF.cells hk
  · exact h2 k hk
theorem DkAt.own_but (h : DkAt lo own w b D) (hc : CellsIn own w) {C B : Nat} (hC : ¬ own C) {row : Option Nat} (hg : w.grownBy w' row) (hr : ∀ r, row = some r → r = C ∨ (B ≤ r ∧ ∃ o : Obj, w.heap[r]? = some o ∧ o.isCells = false)) :
    DkAt lo own w' b D ∧ CellsIn own w' := by
  have hk : ∀ k, own k → w'.heap[k]? = w.heap[k]? := fun k hk => hg.block k (h.lt hk) (fun e => by
    rcases hr k e.symm with e | ⟨_, o, ho, hn⟩
    · subst e; exact hC hk
    · obtain ⟨o', ho', hy⟩ := hc k hk
      rw [ho] at ho'
      injection ho' with ho'
      subst ho'
      rw [hn] at hy
      cases hy)
  exact ⟨h.keep hk hg.size, fun k hk' => by rw [hk k hk']; exact hc k hk'⟩
theorem DkSt.tlen (h : DkSt lo own w b D Uv Fv tp tq) {T : TS} (hT : D.T = some T) : TLen D.m D.n D.U D.F T := by
  obtain ⟨K, n, rfl⟩ := h.ok.tr T hT
  exact (TLen.start h.ok.m8 h.ok.n8).runD n
/-- Behind a store into one of the two rows. -/
theorem DkSt.addU {v' : Value} {l s : Nat} {w2 : World} (h : DkSt lo own w b D Uv Fv tp tq) (hlo : lo ≤ w.heap.size) (hT : D.T = none) (hO : OwnL w2 lo v' (D.m + 1) (D.U ++ [(l : Int), (s : Int)])) (hnb : v'.ownBlock ≠ some b) (hok : DOk ⟨D.U ++ [(l : Int), (s : Int)], D.F, D.T⟩)
    (hg : ∀ g, v'.ownBlock = some g → Uv.ownBlock = some g ∨ w.heap.size ≤ g) (hq : QKeeps (fun g => Uv.ownBlock = some g) w w2) (lb : List UInt8) :
    DkPost lo own w b (⟨D.U ++ [(l : Int), (s : Int)], D.F, D.T⟩, lb) (.returned (.string ⟨lb.toArray⟩)) (w2.setCell ⟨b, 0, none⟩ v') := by
  have hU : ∀ k, own k → Uv.ownBlock ≠ some k → w2.heap[k]? = w.heap[k]? := fun k hk hn => hq.block k (h.lt k hk) hn
  have hto : ∀ g, ¬ tq g := by
    rcases h.tr with ⟨_, _, h3⟩ | ⟨T, _, _, _, _, h1, _⟩
    · exact h3
    · rw [hT] at h1; cases h1
  have htp : tp = .pointer none := by
    rcases h.tr with ⟨_, h3, _⟩ | ⟨T, _, _, _, _, h1, _⟩
    · exact h3
    · rw [hT] at h1; cases h1
  have hbx : BoxN w2 b 94 #[Uv, Fv, tp] := (hU b h.ob (fun e => (h.oU b e).2.1 rfl)).trans h.box
  have hbx2 := hbx.set 0 v'
  have hne : ∀ k, k ≠ b → (w2.setCell ⟨b, 0, none⟩ v').heap[k]? = w2.heap[k]? := fun k hk => Below.heap_setCell w2 ⟨b, 0, none⟩ v' k hk
  have hm : (DS.m ⟨D.U ++ [(l : Int), (s : Int)], D.F, D.T⟩) = D.m + 1 := by
    unfold DS.m
    dsimp only
    rw [List.length_append, show [(l : Int), (s : Int)].length = 2 from rfl]
    omega
  refine ⟨rfl, fun g => own g ∨ v'.ownBlock = some g, ⟨v', Fv, tp, tq, hbx2, ?_, ?_, hok, .inl h.ob, ?_, ?_, fun g hg => absurd hg (hto g), ?_, ?_, .inl ⟨hT, htp, hto⟩⟩, ?_, ?_⟩
  · rw [hm]
    exact hO.keep fun g hg => hne g (fun e => hnb (e ▸ hg))
  · exact h.rF.keep fun g hg => by
      obtain ⟨f1, f2, f3⟩ := h.oF g hg
      rw [hne g f2]
      exact hU g f1 (fun e => (h.oU g e).2.2.2 hg)
  · intro g hgv
    refine ⟨.inr hgv, fun e => hnb (e ▸ hgv), hto g, fun hf => ?_⟩
    rcases hg g hgv with e | e
    · exact (h.oU g e).2.2.2 hf
    · have := h.lt g (h.oF g hf).1
      omega
  · intro g hgf
    exact ⟨.inl (h.oF g hgf).1, (h.oF g hgf).2.1, hto g⟩
  · rintro g (hg' | hg')
    · have := h.lt g hg'; have := hq.size; simp; omega
    · have := (hO.lt hg').2; simp; omega
  · rintro g (hg' | hg')
    · exact h.low g hg'
    · exact (hO.lt hg').1
  · rintro g (hg' | hg')
    · exact .inl hg'
    · rcases hg g hg' with e | e
      · exact .inl (h.oU g e).1
      · exact .inr e
  · exact (hq.wider fun g hg => (h.oU g hg).1).setCell (p := ⟨b, 0, none⟩) h.ob v'
theorem DkSt.addF {v' : Value} {l s : Nat} {w2 : World} (h : DkSt lo own w b D Uv Fv tp tq) (hlo : lo ≤ w.heap.size) (hT : D.T = none) (hO : OwnL w2 lo v' (D.n + 1) (D.F ++ [(l : Int), (s : Int)])) (hnb : v'.ownBlock ≠ some b) (hok : DOk ⟨D.U, D.F ++ [(l : Int), (s : Int)], D.T⟩)
    (hg : ∀ g, v'.ownBlock = some g → Fv.ownBlock = some g ∨ w.heap.size ≤ g) (hq : QKeeps (fun g => Fv.ownBlock = some g) w w2) (lb : List UInt8) :
    DkPost lo own w b (⟨D.U, D.F ++ [(l : Int), (s : Int)], D.T⟩, lb) (.returned (.string ⟨lb.toArray⟩)) (w2.setCell ⟨b, 1, none⟩ v') := by
  have hU : ∀ k, own k → Fv.ownBlock ≠ some k → w2.heap[k]? = w.heap[k]? := fun k hk hn => hq.block k (h.lt k hk) hn
  have hto : ∀ g, ¬ tq g := by
    rcases h.tr with ⟨_, _, h3⟩ | ⟨T, _, _, _, _, h1, _⟩
    · exact h3
    · rw [hT] at h1; cases h1
  have htp : tp = .pointer none := by
    rcases h.tr with ⟨_, h3, _⟩ | ⟨T, _, _, _, _, h1, _⟩
    · exact h3
    · rw [hT] at h1; cases h1
  have hbx : BoxN w2 b 94 #[Uv, Fv, tp] := (hU b h.ob (fun e => (h.oF b e).2.1 rfl)).trans h.box
  have hbx2 := hbx.set 1 v'
  have hne : ∀ k, k ≠ b → (w2.setCell ⟨b, 1, none⟩ v').heap[k]? = w2.heap[k]? := fun k hk => Below.heap_setCell w2 ⟨b, 1, none⟩ v' k hk
  have hm : (DS.n ⟨D.U, D.F ++ [(l : Int), (s : Int)], D.T⟩) = D.n + 1 := by
    unfold DS.n
    dsimp only
    rw [List.length_append, show [(l : Int), (s : Int)].length = 2 from rfl]
    omega
  refine ⟨rfl, fun g => own g ∨ v'.ownBlock = some g, ⟨Uv, v', tp, tq, hbx2, ?_, ?_, hok, .inl h.ob, ?_, ?_, fun g hg => absurd hg (hto g), ?_, ?_, .inl ⟨hT, htp, hto⟩⟩, ?_, ?_⟩
  · exact h.rU.keep fun g hg => by
      obtain ⟨f1, f2, f3, f4⟩ := h.oU g hg
      rw [hne g f2]
      exact hU g f1 f4
  · rw [hm]
    exact hO.keep fun g hg => hne g (fun e => hnb (e ▸ hg))
  · intro g hgu
    refine ⟨.inl (h.oU g hgu).1, (h.oU g hgu).2.1, hto g, fun hf => ?_⟩
    rcases hg g hf with e | e
    · exact (h.oU g hgu).2.2.2 e
    · have := h.lt g (h.oU g hgu).1
      omega
  · intro g hgv
    exact ⟨.inr hgv, fun e => hnb (e ▸ hgv), hto g⟩
  · rintro g (hg' | hg')
    · have := h.lt g hg'; have := hq.size; simp; omega
    · have := (hO.lt hg').2; simp; omega
  · rintro g (hg' | hg')
    · exact h.low g hg'
    · exact (hO.lt hg').1
  · rintro g (hg' | hg')
    · exact .inl hg'
    · rcases hg g hg' with e | e
      · exact .inl (h.oF g e).1
      · exact .inr e
  · exact (hq.wider fun g hg => (h.oF g hg).1).setCell (p := ⟨b, 1, none⟩) h.ob v'
/-- Another trail. -/
theorem DkSt.swap (h : DkSt lo own w b D Uv Fv tp tq) {w1 w2 : World} {bt p : Nat} {v : Value} {A : LA} {T : TS} {tn : Nat → Prop} (hq : QKeeps tq w w1) (hbx : BoxN w2 b 94 #[Uv, Fv, .pointer (some ⟨bt, 0, none⟩)]) (hne : ∀ k, k ≠ b → w2.heap[k]? = w1.heap[k]?) (hs : w1.heap.size = w2.heap.size)
    (hT : TrailAt lo tn w1 bt p v A D.U D.F T) (hn : ∀ g, tn g → tq g ∨ w.heap.size ≤ g) (hok : DOk ⟨D.U, D.F, some T⟩) : DkSt lo (fun g => own g ∨ tn g) w2 b ⟨D.U, D.F, some T⟩ Uv Fv (.pointer (some ⟨bt, 0, none⟩)) tn := by
  have hk : ∀ k, own k → k ≠ b → ¬ tq k → w2.heap[k]? = w.heap[k]? := fun k h1 h2 h3 => (hne k h2).trans (hq.block k (h.lt k h1) h3)
  have hnn : ∀ k, own k → ¬ tq k → ¬ tn k := fun k h1 h2 h3 => by
    rcases hn k h3 with e | e
    · exact h2 e
    · have := h.lt k h1
      omega
  have hnb : ∀ k, tn k → k ≠ b := fun k h3 => by
    rcases hn k h3 with e | e
    · exact (h.oT k e).2
    · have := h.lt b h.ob
      omega
  refine ⟨hbx, h.rU.keep fun g hg => hk g (h.oU g hg).1 (h.oU g hg).2.1 (h.oU g hg).2.2.1, h.rF.keep fun g hg => hk g (h.oF g hg).1 (h.oF g hg).2.1 (h.oF g hg).2.2, hok, .inl h.ob,
    fun g hg => ⟨.inl (h.oU g hg).1, (h.oU g hg).2.1, hnn g (h.oU g hg).1 (h.oU g hg).2.2.1, (h.oU g hg).2.2.2⟩, fun g hg => ⟨.inl (h.oF g hg).1, (h.oF g hg).2.1, hnn g (h.oF g hg).1 (h.oF g hg).2.2⟩,
    fun g hg => ⟨.inr hg, hnb g hg⟩, ?_, ?_, .inr ⟨T, bt, p, v, A, rfl, rfl, hT.keep (fun k hk' => hne k (hnb k hk')) (by omega)⟩⟩
  · rintro g (hg | hg)
    · have := h.lt g hg; have := hq.size; omega
    · have := hT.lt g hg; omega
  · rintro g (hg | hg)
    · exact h.low g hg
    · exact hT.low g hg
/-- Another trail in the same place. -/
theorem DkSt.stay {bt p : Nat} {v : Value} {A : LA} {T : TS} {tn : Nat → Prop} {w1 : World} (h : DkSt lo own w b D Uv Fv (.pointer (some ⟨bt, 0, none⟩)) tq) (hq : QKeeps tq w w1) (hT : TrailAt lo tn w1 bt p v A D.U D.F T) (hn : ∀ g, tn g → tq g ∨ w.heap.size ≤ g) (hok : DOk ⟨D.U, D.F, some T⟩) :
    DkSt lo (fun g => own g ∨ tn g) w1 b ⟨D.U, D.F, some T⟩ Uv Fv (.pointer (some ⟨bt, 0, none⟩)) tn :=
  h.swap hq (hq.box h.box fun e => (h.oT b e).2 rfl) (fun _ _ => rfl) rfl hT hn hok
/-- A trail is stored. -/
theorem DkSt.store {bt p : Nat} {v : Value} {A : LA} {T : TS} {tn : Nat → Prop} {w1 : World} (h : DkSt lo own w b D Uv Fv tp tq) (hq : QKeeps tq w w1) (hT : TrailAt lo tn w1 bt p v A D.U D.F T) (hn : ∀ g, tn g → tq g ∨ w.heap.size ≤ g) (hok : DOk ⟨D.U, D.F, some T⟩) :
    DkSt lo (fun g => own g ∨ tn g) (w1.setCell ⟨b, 2, none⟩ (.pointer (some ⟨bt, 0, none⟩))) b ⟨D.U, D.F, some T⟩ Uv Fv (.pointer (some ⟨bt, 0, none⟩)) tn :=
  h.swap hq ((hq.box h.box fun e => (h.oT b e).2 rfl).set 2 _) (fun k hk => Below.heap_setCell w1 ⟨b, 2, none⟩ _ k hk) (by simp) hT hn hok
theorem DkSt.post {D2 : DS} {Uv2 Fv2 tp2 : Value} {tn : Nat → Prop} {w1 : World} {lb : List UInt8} {S : Nat → Prop} (h2 : DkSt lo (fun g => own g ∨ tn g) w1 b D2 Uv2 Fv2 tp2 tn) (hq : QKeeps S w w1) (hS : ∀ g, S g → own g) (hn : ∀ g, tn g → own g ∨ w.heap.size ≤ g) :
    DkPost lo own w b (D2, lb) (.returned (.string ⟨lb.toArray⟩)) w1 :=
  ⟨rfl, _, ⟨_, _, _, _, h2⟩, fun g hg => hg.elim .inl (hn g), hq.wider hS⟩
/-- Add, users. -/
theorem AddU_any {x : ByteArray} (h : DkAt lo own w b D) (hE : ErrT w) (hlo : lo ≤ w.heap.size) (hx : x.size < 2 ^ 48) :
    Calls Tryz.prog 58 #[.pointer (some ⟨b, 0, none⟩), .pointer (some ⟨b, 0, none⟩), .int .i64 8, .string x] w (DkPost lo own w b (dAddU D x.data.toList)) := by
  have hd := h
  obtain ⟨Uv, Fv, tp, tq, h⟩ := h
  have hokA := h.ok.addU x.data.toList
  unfold dAddU at hokA ⊢
  cases hp : parseV x.data.toList with
  | none => exact (Add_bad hE hx hp).mono (by rintro e w' ⟨rfl, hb⟩; exact DkPost.same hd hb _)
  | some lx =>
    obtain ⟨l, s⟩ := lx
    rw [hp] at hokA
    dsimp only at hokA ⊢
    rcases h.tr with ⟨hT, htp, hto⟩ | ⟨T, bt, p, v, A, hT, htp, hTr⟩
    · have hn : ¬ D.T.isSome = true := by rw [hT]; decide
      rw [if_neg hn] at hokA ⊢
      subst htp
      obtain ⟨A, cc, hUv, hI⟩ := h.rU.form
      subst hUv
      by_cases h8 : D.m = 8
      · have ck : w.cell? ⟨b, 0, none⟩ = some (.slice A D.m cc) := h.box.cell rfl
        rw [h8] at ck
        rw [if_pos h8]
        exact (Add_full hx hp (h.box.cell rfl) ck).mono (by rintro e w' ⟨rfl, hb⟩; exact DkPost.same hd hb _)
      · rw [if_neg h8] at hokA ⊢
        refine (Add_push hx hp h.box (h.box.cell rfl) (by have := h.ok.m8; omega) h.rU hlo).mono ?_
        rintro e w' ⟨rfl, v', w2, hO, hnb, hbx2, rfl, hg, hq⟩
        exact h.addU hlo hT hO hnb hokA hg hq okL
    · rw [if_pos (by rw [hT]; rfl)]
      subst htp
      exact (Add_state hx hp (h.box.cell rfl)).mono (by rintro e w' ⟨rfl, hb⟩; exact DkPost.same hd hb _)
/-- Add, files. -/
theorem AddF_any {x : ByteArray} (h : DkAt lo own w b D) (hE : ErrT w) (hlo : lo ≤ w.heap.size) (hx : x.size < 2 ^ 48) :
    Calls Tryz.prog 58 #[.pointer (some ⟨b, 0, none⟩), .pointer (some ⟨b, 1, none⟩), .int .i64 8, .string x] w (DkPost lo own w b (dAddF D x.data.toList)) := by
  have hd := h
  obtain ⟨Uv, Fv, tp, tq, h⟩ := h
  have hokA := h.ok.addF x.data.toList
  unfold dAddF at hokA ⊢
  cases hp : parseV x.data.toList with
  | none => exact (Add_bad hE hx hp).mono (by rintro e w' ⟨rfl, hb⟩; exact DkPost.same hd hb _)
  | some lx =>
    obtain ⟨l, s⟩ := lx
    rw [hp] at hokA
    dsimp only at hokA ⊢
    rcases h.tr with ⟨hT, htp, hto⟩ | ⟨T, bt, p, v, A, hT, htp, hTr⟩
    · have hn : ¬ D.T.isSome = true := by rw [hT]; decide
      rw [if_neg hn] at hokA ⊢
      subst htp
      obtain ⟨A, cc, hFv, hI⟩ := h.rF.form
      subst hFv
      by_cases h8 : D.n = 8
      · have ck : w.cell? ⟨b, 1, none⟩ = some (.slice A D.n cc) := h.box.cell rfl
        rw [h8] at ck
        rw [if_pos h8]
        exact (Add_full hx hp (h.box.cell rfl) ck).mono (by rintro e w' ⟨rfl, hb⟩; exact DkPost.same hd hb _)
      · rw [if_neg h8] at hokA ⊢
        refine (Add_push hx hp h.box (h.box.cell rfl) (by have := h.ok.n8; omega) h.rF hlo).mono ?_
        rintro e w' ⟨rfl, v', w2, hO, hnb, hbx2, rfl, hg, hq⟩
        exact h.addF hlo hT hO hnb hokA hg hq okL
    · rw [if_pos (by rw [hT]; rfl)]
      subst htp
      exact (Add_state hx hp (h.box.cell rfl)).mono (by rintro e w' ⟨rfl, hb⟩; exact DkPost.same hd hb _)
set_option maxHeartbeats 1000000 in
/-- Start. -/
theorem Start_any (h : DkAt lo own w b D) (hlo : lo ≤ w.heap.size) :
    Calls Tryz.prog 59 #[.pointer (some ⟨b, 0, none⟩)] w (DkPost lo own w b (dStart D)) := by
  have hd := h
  obtain ⟨Uv, Fv, tp, tq, h⟩ := h
  have hokA := h.ok.start
  unfold dStart at hokA ⊢
  rcases h.tr with ⟨hT, htp, hto⟩ | ⟨T, bt, p, v, A, hT, htp, hTr⟩
  · have hn : ¬ D.T.isSome = true := by rw [hT]; decide
    rw [if_neg hn, if_pos h.ok.code] at hokA ⊢
    subst htp
    obtain ⟨A, cc, hUv, hI⟩ := h.rU.form
    obtain ⟨A', cc', hFv, hI'⟩ := h.rF.form
    subst hUv hFv
    have hL := h.ok.labs
    have CN := Lib.hid (fun V (hV : Below w.heap.size w V) => TNew_ok D.U D.F D.m D.n hL.lU hL.lF A A' cc cc' V (hI.below hV) (hI'.below hV) hL.cu hL.cf)
    have hbd : Below w.heap.size w w.drew := (Below.refl _ _).drew
    have CT := Lib.hid (fun V => dkTold_nil V)
    have c0 : w.cell? ⟨b, 0, none⟩ = some (.slice A D.m cc) := h.box.cell rfl
    have c1 : w.cell? ⟨b, 1, none⟩ = some (.slice A' D.n cc') := h.box.cell rfl
    have c2 : w.cell? ⟨b, 2, none⟩ = some (.pointer none) := h.box.cell rfl
    have H := Lib.hid h
    have Hok := Lib.hid hokA
    clear h hd hokA hI hI' hL
    generalize D.m = m at *
    generalize D.n = n at *
    go_enter Tryz.func59, Tryz.ntmps59
    go_wp2_with fail
    go_region_with (go_at_call 81; with_reducible refine (CN.out _ hbd).mono ?_; rintro e w1 ⟨⟨bt, p, v, A2, tn, rfl, hTr⟩, hb1⟩; have HTr := Lib.hid hTr; clear hTr; have hb1' := hbd.trans (hb1.mono hbd.size); have hbx1 := H.out.box.all hb1'; have f2 := hbx1.free 2; have c21 : w1.cell? ⟨b, 2, none⟩ = some (.pointer none) := hbx1.cell rfl)
    all_goals
      go_wp2_with fail
      with_reducible refine (CT.out _).mono ?_
      rintro e w3 ⟨rfl, hb3⟩
      go_wp2_with fail
      go_ret
      have hq : QKeeps tq w w1 := QKeeps.of_below hb1'
      have hn' : ∀ g, tn g → tq g ∨ w.heap.size ≤ g := fun g hg => .inr (Nat.le_trans hbd.size (HTr.out.low g hg))
      have hn'' : ∀ g, tn g → own g ∨ w.heap.size ≤ g := fun g hg => .inr (Nat.le_trans hbd.size (HTr.out.low g hg))
      exact (DkSt.post (H.out.store hq (HTr.out.lower (Nat.le_trans hlo hbd.size)) hn' Hok.out) ((hq.wider fun g hg => (H.out.oT g hg).1).setCell (p := ⟨b, 2, none⟩) H.out.ob _) (fun g hg => hg) hn'').back hb3
  · rw [if_pos (by rw [hT]; rfl)]
    subst htp
    have c2 : w.cell? ⟨b, 2, none⟩ = some (.pointer (some ⟨bt, 0, none⟩)) := h.box.cell rfl
    have H := Lib.hid hd
    clear h hd hokA hTr hT
    go_enter Tryz.func59, Tryz.ntmps59
    go_wp2_with fail
    go_ret
    exact DkPost.same H.out (Below.refl _ _) _
end
end Go.Proofs.YtanlmfnhlldkeaaGreatDoor

namespace Go.Proofs.YtanlmfnhlldkeaaGreatDoor
open Go.RowKit
set_option maxRecDepth 100000
set_option linter.unusedVariables false

section
variable {b : Nat} {own : Nat → Prop} {W0 w : World} {D : DS}
theorem DkSt.trail {lo : Nat} {Uv Fv tp : Value} {tq : Nat → Prop} (h : DkSt lo own w b D Uv Fv tp tq) {T : TS} (hT : D.T = some T) : ∃ bt p v A, tp = .pointer (some ⟨bt, 0, none⟩) ∧ TrailAt lo tq w bt p v A D.U D.F T := by
  rcases h.tr with ⟨h1, _⟩ | ⟨T', bt, p, v, A, h1, h2, h3⟩
  · rw [hT] at h1; cases h1
  · rw [hT] at h1; injection h1 with h1; subst h1; exact ⟨bt, p, v, A, h2, h3⟩
theorem ba_take (l : List UInt8) (n : Nat) : ((⟨l.toArray⟩ : ByteArray).extract 0 n).data.toList = l.take n := by
  rw [ByteArray.data_extract]
  simp
set_option maxHeartbeats 8000000 in
theorem Crash_any {T : TS} (hG : Glob W0) (hbW : Below W0.heap.size W0 w) (h : DkAt W0.heap.size own w b D) (hT : D.T = some T) (k : Nat) :
    Calls Tryz.prog 90 #[.pointer (some ⟨b, 0, none⟩), .int .i64 k] w (DkPost W0.heap.size own w b (dCrash D T k)) := by
  obtain ⟨Uv, Fv, tp, tq, h⟩ := h
  have hlo := hbW.size
  obtain ⟨bt, p, v, A, htp, hTr⟩ := h.trail hT
  subst htp
  obtain ⟨T', c, he, hr, _, hcl⟩ := (h.ok.tr T hT).torn h.ok.m8 h.ok.n8 k
  have hokA := h.ok.crash hT k
  have hlog : T.log.length ≤ 1500 := by
    have h1 := (h.tlen hT).inv.log
    have h2 := (h.tlen hT).inv.many
    omega
  unfold dCrash at hokA ⊢
  rw [he, if_pos rfl] at hokA ⊢
  dsimp only at hokA ⊢
  have CTx := Lib.hid (TText_any hTr)
  have hD : (⟨D.U, D.F, some T⟩ : DS) = D := by rw [← hT]
  have hL := h.ok.labs
  have c2 : w.cell? ⟨b, 2, none⟩ = some (.pointer (some ⟨bt, 0, none⟩)) := h.box.cell rfl
  have H := Lib.hid h
  have Hok := Lib.hid hokA
  have HTr := Lib.hid hTr
  clear h hokA hTr hr
  go_enter Tryz.func90, Tryz.ntmps90
  go_wp2_with fail
  with_reducible refine CTx.out.mono ?_
  rintro e w1 ⟨rfl, hTr1, hq1⟩
  have h1 := H.out.stay hq1 hTr1 (fun g hg => .inl hg) (by rw [hD]; exact H.out.ok)
  rw [hD] at h1
  have hb1 : Below W0.heap.size W0 w1 := hq1.to_below (fun g hg => HTr.out.low g hg) hbW hlo
  obtain ⟨A1, cc, hUv, hI⟩ := h1.rU.form
  obtain ⟨A2, cc', hFv, hI'⟩ := h1.rF.form
  subst hUv hFv
  have c10 : w1.cell? ⟨b, 0, none⟩ = some (.slice A1 D.m cc) := h1.box.cell rfl
  have c11 : w1.cell? ⟨b, 1, none⟩ = some (.slice A2 D.n cc') := h1.box.cell rfl
  obtain ⟨s, hs⟩ : ∃ s : ByteArray, (⟨T.log.toArray⟩ : ByteArray) = s := ⟨_, rfl⟩
  have hsz : s.size = T.log.length := by rw [← hs, ba_size, ba_of]
  have hex : (s.extract 0 (min (k : Int) (T.log.length : Int)).toNat).data.toList = T.log.take k := by
    rw [← hs, ba_take]
    rcases Nat.le_total k T.log.length with hk | hk
    · rw [show (min (k : Int) (T.log.length : Int)).toNat = k by omega]
    · rw [show (min (k : Int) (T.log.length : Int)).toNat = T.log.length by omega, List.take_of_length_le (Nat.le_refl _), List.take_of_length_le hk]
  have hexs : (s.extract 0 (min (k : Int) (T.log.length : Int)).toNat).size < 4294967281 := by rw [ba_size, hex, List.length_take]; omega
  have hmn0 : (0 : Int) ≤ min (k : Int) (T.log.length : Int) := by omega
  have hmn1 : min (k : Int) (T.log.length : Int) ≤ (T.log.length : Int) := by omega
  have CO := Lib.hid (fun V (hV : Below w1.heap.size w1 V) => by
    have C := TOpen_ok D.U D.F D.m D.n hL.lU hL.lF A1 A2 cc cc' (s.extract 0 (min (k : Int) (T.log.length : Int)).toNat) hexs V (hG.next (hb1.trans (hV.mono hb1.size))) (hI.below hV) (hI'.below hV) hL.cu hL.cf
    rw [hex, he] at C
    exact (C.mono fun e w' ⟨hp, hb⟩ => ⟨by
      rcases hp with ⟨_, hp⟩ | ⟨hne, _⟩
      · exact hp
      · exact absurd rfl hne, hb⟩ : Calls Tryz.prog 118 #[.slice A1 D.m cc, .slice A2 D.n cc', .string (s.extract 0 (min (k : Int) (T.log.length : Int)).toNat)] V fun e w' => (∃ b p v A own, e = .returned (.tuple #[.pointer (some ⟨b, 0, none⟩), .int .i64 c, .nilIface]) ∧ TrailAt V.heap.size own w' b p v A D.U D.F T') ∧ Below V.heap.size V w'))
  have hlx := itoa_len19 (n := c) (by omega)
  have hsx : (⟨(Lib.itoa (c : Int)).toArray⟩ : ByteArray).size = (Lib.itoa (c : Int)).length := by rw [ba_size, ba_of]
  have CI := Lib.hid (fun V (hV : Below W0.heap.size W0 V) => hG.itoa hV c (by omega))
  have HKeep := Lib.hid (fun V (hV : Below w1.heap.size w1 V) => (⟨(h1.box.all hV).cell (k := 0) rfl, (h1.box.all hV).cell (k := 1) rfl⟩ : V.cell? ⟨b, 0, none⟩ = some (.slice A1 D.m cc) ∧ V.cell? ⟨b, 1, none⟩ = some (.slice A2 D.n cc')))
  have H1 := Lib.hid h1
  have Hb1 := Lib.hid hb1
  have Hq1 := Lib.hid hq1
  clear h1 hb1 hq1 hI hI' hL hex hexs he hT hD hTr1 hlog
  rw [hs]
  generalize D.m = m at *
  generalize D.n = n at *
  have hbd : Below w1.heap.size w1 w1.drew := (Below.refl _ _).drew
  go_wp2_with fail
  go_cut [6, 7, 8] from 9 to 44 (fun x6 x7 x8 wx => ∃ (bt2 p2 : Nat) (v2 : Value) (A3 : LA) (tn : Nat → Prop), x6 = .pointer (some ⟨bt2, 0, none⟩) ∧ x7 = .int .i64 c ∧ x8 = .nilIface ∧ TrailAt w1.heap.size tn wx bt2 p2 v2 A3 D.U D.F T' ∧ Below w1.heap.size w1 wx)
  case first =>
    go_region_held3 (fun V => V.cell? ⟨b, 0, none⟩ = some (.slice A1 m cc) ∧ V.cell? ⟨b, 1, none⟩ = some (.slice A2 n cc'))
      ((refine HKeep.out _ ?_; repeat (first | assumption | exact Below.refl _ _ | refine Below.drew ?_)))
      ((go_at_call 118; with_reducible refine (CO.out _ (by repeat (first | assumption | exact Below.refl _ _ | refine Below.drew ?_))).mono ?_; rintro e w3 ⟨⟨bt2, p2, v2, A3, tn, rfl, hTr3⟩, hb3⟩; have HTr3 := Lib.hid hTr3; clear hTr3; have hb3' := hbd.trans (hb3.mono hbd.size)))
    all_goals
      go_wp2_with fail
      go_meet
      exact ⟨bt2, p2, v2, A3, tn, rfl, rfl, rfl, HTr3.out, hb3'⟩
  case rest =>
    obtain ⟨bt2, p2, v2, A3, tn, rfl, rfl, rfl, hTr3, hb3⟩ := hcut
    generalize wc = w3 at *
    have hbx3 := H1.out.box.all hb3
    have f2 := hbx3.free 2
    have c23 : w3.cell? ⟨b, 2, none⟩ = some (.pointer (some ⟨bt, 0, none⟩)) := hbx3.cell rfl
    have HTr3 := Lib.hid hTr3
    clear hTr3
    go_wp2_with fail
    with_reducible refine (CI.out _ ?yc).mono ?_
    case yc => exact (Hb1.out.trans (hb3.mono Hb1.out.size)).setCell (p := ⟨b, 2, none⟩) (H1.out.low b H1.out.ob) _
    rintro e w4 ⟨rfl, hb4⟩
    go_wp2_with fail
    go_ret
    have hq : QKeeps tq w1 w3 := QKeeps.of_below hb3
    have hs1 := Hq1.out.size
    have st := H1.out.store hq (HTr3.out.lower Hb1.out.size) (fun g hg => .inr (HTr3.out.low g hg)) Hok.out
    have hp : DkPost W0.heap.size own w b (⟨D.U, D.F, some T'⟩, foundL ++ Lib.itoa (c : Int)) (.returned (.string ⟨(foundL ++ Lib.itoa (c : Int)).toArray⟩)) (w3.setCell ⟨b, 2, none⟩ (.pointer (some ⟨bt2, 0, none⟩))) := by
      refine ⟨rfl, _, ⟨_, _, _, _, st⟩, fun g hg => ?_, ?_⟩
      · rcases hg with (hg | hg) | hg
        · exact .inl hg
        · exact .inl (H.out.oT g hg).1
        · have := HTr3.out.low g hg
          exact .inr (Nat.le_trans hs1 this)
      · exact ((Hq1.out.wider fun g hg => (H.out.oT g hg).1).trans (QKeeps.of_below (S := own) hb3) fun g hg => .inl hg).setCell (p := ⟨b, 2, none⟩) H.out.ob _
    exact ⟨by rw [← ba_app]; rfl, (hp.back hb4).2⟩
end
end Go.Proofs.YtanlmfnhlldkeaaGreatDoor

namespace Go.Proofs.YtanlmfnhlldkeaaGreatDoor
open Go.RowKit
set_option linter.unusedVariables false

theorem bs_ne {a b : ByteArray} (h : a.data.toList ≠ b.data.toList) : (a == b) = false := by
  cases e : a == b with
  | false => rfl
  | true => exact absurd (by rw [(MapKept.bytes_beq a b).1 e]) h
theorem bs_eq (a : ByteArray) : (a == a) = true := (MapKept.bytes_beq a a).2 rfl
theorem find4 (s k0 k1 k2 k3 : ByteArray) (f0 f1 f2 f3 : Value) (c0 c1 c2 c3 : Nat) : Instr.findNow .string (.string s) [⟨.string k0, f0, c0⟩, ⟨.string k1, f1, c1⟩, ⟨.string k2, f2, c2⟩, ⟨.string k3, f3, c3⟩] 0 =
    if s.data.toList = k0.data.toList then some (some (0, f0)) else if s.data.toList = k1.data.toList then some (some (1, f1)) else if s.data.toList = k2.data.toList then some (some (2, f2)) else if s.data.toList = k3.data.toList then some (some (3, f3)) else some none := by
  have step : ∀ (k : ByteArray) (f : Value) (c : Nat) (es : List MapEntry) (i : Nat), Instr.findNow .string (.string s) (⟨.string k, f, c⟩ :: es) i = if s.data.toList = k.data.toList then some (some (i, f)) else Instr.findNow .string (.string s) es (i + 1) := fun k f c es i => by
    by_cases h : s.data.toList = k.data.toList
    · have e : s = k := ByteArray.ext (Array.toList_inj.1 h)
      subst e
      rw [if_pos rfl]
      simp [Instr.findNow, Instr.sameNow, bs_eq]
    · rw [if_neg h]
      simp [Instr.findNow, Instr.sameNow, bs_ne h]
  rw [step, step, step, step]
  rfl
theorem find_new (s : ByteArray) : ∀ (es : List MapEntry) (i : Nat), (∀ e ∈ es, ∃ k : ByteArray, e.key = .string k ∧ s.data.toList ≠ k.data.toList) → Instr.findNow .string (.string s) es i = some none
  | [], i, _ => rfl
  | e :: es, i, h => by
    obtain ⟨k, hk, hne⟩ := h e (List.mem_cons_self ..)
    have ih := find_new s es (i + 1) fun x hx => h x (List.mem_cons_of_mem _ hx)
    simp [Instr.findNow, hk, Instr.sameNow, bs_ne hne, ih]
section
variable {P : Program} {mty kt et : TypeId}
theorem run_makeMapN (t : TypeId) (w : World) : (Instr.makeMap t none).run P w = .ok (.map (some w.heap.size)) (w.alloc (.map #[] 0)) := rfl
theorem run_makeFuncN (fn : Fn) (first cap : Array Value) (w : World) : (Instr.makeFunc fn first cap).run P w = .ok (.func fn first cap) w := rfl
theorem run_insertS (hm : P.underlying mty = some (.map kt et)) (hd : P.underlying kt = some .string) (w : World) (es : Array MapEntry) (c : Nat) (s : ByteArray) (v : Value) (h1 : ∀ e ∈ es.toList, ∃ k : ByteArray, e.key = .string k ∧ s.data.toList ≠ k.data.toList) :
    (Instr.mapUpdate mty (.map (some w.heap.size)) (.string s) v).run P (w.alloc (.map es c)) = .ok () (w.alloc (.map (es.push ⟨.string s, v, c⟩) (c + 1))) := by
  have hb : (w.alloc (.map es c)).heap[w.heap.size]? = some (.map es c) := heap_alloc_new w _
  have hk : MapKept.IsKey .string (.string s) := trivial
  have hf := find_new s es.toList 0 h1
  simp only [Instr.mapUpdate, Sem.run_bind, run_underlying hm, MapKept.run_getObj_map hb, MapKept.run_checkKey hd hk, MapKept.run_findKey hd hf, MapKept.run_setObj_map _ hb, Result.andThen]
  congr 1
  show ({ (w.alloc (.map es c)) with heap := (w.heap.push (Obj.map es c)).setIfInBounds w.heap.size (Obj.map (es.push { key := Value.string s, val := v, born := c }) (c + 1)) } : World) = w.alloc (Obj.map (es.push { key := Value.string s, val := v, born := c }) (c + 1))
  have e : (w.heap.push (Obj.map es c)).setIfInBounds w.heap.size (Obj.map (es.push { key := Value.string s, val := v, born := c }) (c + 1)) = w.heap.push (Obj.map (es.push { key := Value.string s, val := v, born := c }) (c + 1)) := by
    apply Array.ext
    · simp
    · intro i h1 h2
      rcases Nat.lt_or_ge i w.heap.size with h | h
      · rw [Array.getElem_setIfInBounds_ne (by simp; omega) (by omega), Array.getElem_push_lt h, Array.getElem_push_lt h]
      · have hi : i = w.heap.size := by simp at h2; omega
        subst hi
        simp
  rw [e]
  rfl
theorem run_lookupS (hm : P.underlying mty = some (.map kt et)) (hd : P.underlying kt = some .string) {w : World} {r : Nat} {es : Array MapEntry} {c : Nat} (hb : w.heap[r]? = some (.map es c)) (s : ByteArray) {i : Nat} {v : Value} (h1 : Instr.findNow .string (.string s) es.toList 0 = some (some (i, v))) :
    (Instr.lookup mty (.map (some r)) (.string s) true).run P w = .ok (.tuple #[v, .bool true]) w := by
  have hk : MapKept.IsKey .string (.string s) := trivial
  simp [Instr.lookup, run_underlying hm, MapKept.run_getObj_map hb, MapKept.run_checkKey hd hk, MapKept.run_findKey hd h1, Result.andThen]
theorem run_lookupN (hm : P.underlying mty = some (.map kt et)) (hd : P.underlying kt = some .string) {w : World} {r : Nat} {es : Array MapEntry} {c : Nat} (hb : w.heap[r]? = some (.map es c)) (s : ByteArray) {z : Value} (hz : (zeroValue et).run P w = .ok z w) (h1 : Instr.findNow .string (.string s) es.toList 0 = some none) :
    (Instr.lookup mty (.map (some r)) (.string s) true).run P w = .ok (.tuple #[z, .bool false]) w := by
  have hk : MapKept.IsKey .string (.string s) := trivial
  simp [Instr.lookup, run_underlying hm, MapKept.run_getObj_map hb, MapKept.run_checkKey hd hk, MapKept.run_findKey hd h1, hz, Result.andThen]
end
end Go.Proofs.YtanlmfnhlldkeaaGreatDoor

namespace Go.Proofs.YtanlmfnhlldkeaaGreatDoor
open Go.RowKit
set_option maxRecDepth 100000
set_option linter.unusedVariables false

section
variable {b : Nat} {own : Nat → Prop} {W0 w : World} {D : DS}
theorem DkPost.said {lo : Nat} {r : DS × List UInt8} {e : Ending} {w' : World} (h : DkPost lo own w b r e w') : e = .returned (.string ⟨r.2.toArray⟩) ∧ DkPost lo own w b r (.returned (.string ⟨r.2.toArray⟩)) w' := ⟨h.1, rfl, h.2⟩
theorem told_lt {T : TS} {m n : Nat} {U F : List Int} (h : TLen m n U F T) (x : Int) : told T.S.Re x < 256 ∧ told T.S.Wr x < 256 ∧ told T.S.Ho x < 256 := by
  have hi := h.inv.inv
  unfold told
  refine ⟨?_, ?_, ?_⟩
  · split
    · exact hi.re_lt _
    · decide
  · split
    · exact hi.wr_lt _
    · decide
  · split
    · exact hi.ho_lt _
    · decide
set_option maxHeartbeats 4000000 in
theorem actReads_any {T : TS} {b3 b4 b5 g n c : Nat} {x : Int} (v : List UInt8) (hv : v.length ≤ 1000) (hG : Glob W0) (hbW : Below W0.heap.size W0 w) (h : DkAt W0.heap.size own w b D) (hT : D.T = some T) (hn : 0 < n)
    (k4 : w.cell? ⟨b4, 0, none⟩ = some (.string ⟨v.toArray⟩)) (k3 : w.cell? ⟨b3, 0, none⟩ = some (.pointer (some ⟨b, 0, none⟩))) (k5 : w.cell? ⟨b5, 0, none⟩ = some (.slice (some ⟨g, 0, none⟩) n c)) (kg : w.cell? ⟨g, 0, none⟩ = some (.int .i64 x)) :
    Calls Tryz.prog 82 #[.pointer (some ⟨b4, 0, none⟩), .pointer (some ⟨b3, 0, none⟩), .pointer (some ⟨b5, 0, none⟩)] w fun e w' => e = .returned (.string ⟨(setV v (told T.S.Re x)).toArray⟩) ∧ Below w.heap.size w w' := by
  obtain ⟨Uv, Fv, tp, tq, h⟩ := h
  obtain ⟨bt, p, vv, A, htp, hTr⟩ := h.trail hT
  subst htp
  have hl8 : T.S.Re.length < 2 ^ 60 := by
    have h1 := (h.tlen hT).re
    have h2 := (h.tlen hT).ho
    have := h.ok.m8
    have := h.ok.n8
    omega
  have ht := (told_lt (h.tlen hT) x)
  have CR := Lib.hid (fun V (hV : Below w.heap.size w V) => TReads_any (hTr.below hV) hl8 x)
  have CS := Lib.hid (fun V (hV : Below w.heap.size w V) => Set_any hG (hbW.trans (hV.mono hbW.size)) v hv (told T.S.Re x) ht.1)
  have c2 : w.cell? ⟨b, 2, none⟩ = some (.pointer (some ⟨bt, 0, none⟩)) := h.box.cell rfl
  have l2 := block_lt c2
  have HK := Lib.hid (fun V (hV : Below w.heap.size w V) => (⟨(hV.cell (p := ⟨b4, 0, none⟩) (block_lt k4)).trans k4, (hV.cell (p := ⟨b3, 0, none⟩) (block_lt k3)).trans k3, (hV.cell (p := ⟨b5, 0, none⟩) (block_lt k5)).trans k5, (hV.cell (p := ⟨g, 0, none⟩) (block_lt kg)).trans kg, (hV.cell (p := ⟨b, 2, none⟩) l2).trans c2⟩ : V.cell? ⟨b4, 0, none⟩ = some (.string ⟨v.toArray⟩) ∧ V.cell? ⟨b3, 0, none⟩ = some (.pointer (some ⟨b, 0, none⟩)) ∧ V.cell? ⟨b5, 0, none⟩ = some (.slice (some ⟨g, 0, none⟩) n c) ∧ V.cell? ⟨g, 0, none⟩ = some (.int .i64 x) ∧ V.cell? ⟨b, 2, none⟩ = some (.pointer (some ⟨bt, 0, none⟩))))
  have hbd : Below w.heap.size w w.drew := (Below.refl _ _).drew
  have hn0 : (0 : Int) < (n : Int) := by omega
  clear h hTr hT hl8 ht l2 c2
  generalize told T.S.Re x = r at *
  go_enter Tryz.func82, Tryz.ntmps82
  go_wp2_with fail
  go_region_held3 (fun V => V.cell? ⟨b4, 0, none⟩ = some (.string ⟨v.toArray⟩) ∧ V.cell? ⟨b3, 0, none⟩ = some (.pointer (some ⟨b, 0, none⟩)) ∧ V.cell? ⟨b5, 0, none⟩ = some (.slice (some ⟨g, 0, none⟩) n c) ∧ V.cell? ⟨g, 0, none⟩ = some (.int .i64 x) ∧ V.cell? ⟨b, 2, none⟩ = some (.pointer (some ⟨bt, 0, none⟩)))
    ((refine HK.out _ ?_; repeat (first | assumption | exact Below.refl _ _ | refine Below.drew ?_)))
    ((first | (go_at_call 84; with_reducible refine (CR.out _ (by repeat (first | assumption | exact Below.refl _ _ | refine Below.drew ?_))).mono ?_; rintro e w4 ⟨rfl, rfl⟩) | (go_at_call 83; with_reducible refine (CS.out _ (by repeat (first | assumption | exact Below.refl _ _ | refine Below.drew ?_))).mono ?_; rintro e w5 ⟨rfl, hb5⟩; have hb5' := hbd.trans (hb5.mono hbd.size))))
  all_goals
    go_wp2_with fail
    go_ret
    exact ⟨rfl, hb5'⟩
set_option maxHeartbeats 4000000 in
theorem actWrites_any {T : TS} {b3 b4 b5 g n c : Nat} {x : Int} (v : List UInt8) (hv : v.length ≤ 1000) (hG : Glob W0) (hbW : Below W0.heap.size W0 w) (h : DkAt W0.heap.size own w b D) (hT : D.T = some T) (hn : 0 < n)
    (k4 : w.cell? ⟨b4, 0, none⟩ = some (.string ⟨v.toArray⟩)) (k3 : w.cell? ⟨b3, 0, none⟩ = some (.pointer (some ⟨b, 0, none⟩))) (k5 : w.cell? ⟨b5, 0, none⟩ = some (.slice (some ⟨g, 0, none⟩) n c)) (kg : w.cell? ⟨g, 0, none⟩ = some (.int .i64 x)) :
    Calls Tryz.prog 85 #[.pointer (some ⟨b4, 0, none⟩), .pointer (some ⟨b3, 0, none⟩), .pointer (some ⟨b5, 0, none⟩)] w fun e w' => e = .returned (.string ⟨(setV v (told T.S.Wr x)).toArray⟩) ∧ Below w.heap.size w w' := by
  obtain ⟨Uv, Fv, tp, tq, h⟩ := h
  obtain ⟨bt, p, vv, A, htp, hTr⟩ := h.trail hT
  subst htp
  have hl8 : T.S.Re.length < 2 ^ 60 := by
    have h1 := (h.tlen hT).re
    have h2 := (h.tlen hT).ho
    have := h.ok.m8
    have := h.ok.n8
    omega
  have ht := (told_lt (h.tlen hT) x)
  have CR := Lib.hid (fun V (hV : Below w.heap.size w V) => TWrites_any (hTr.below hV) hl8 x)
  have CS := Lib.hid (fun V (hV : Below w.heap.size w V) => Set_any hG (hbW.trans (hV.mono hbW.size)) v hv (told T.S.Wr x) ht.2.1)
  have c2 : w.cell? ⟨b, 2, none⟩ = some (.pointer (some ⟨bt, 0, none⟩)) := h.box.cell rfl
  have l2 := block_lt c2
  have HK := Lib.hid (fun V (hV : Below w.heap.size w V) => (⟨(hV.cell (p := ⟨b4, 0, none⟩) (block_lt k4)).trans k4, (hV.cell (p := ⟨b3, 0, none⟩) (block_lt k3)).trans k3, (hV.cell (p := ⟨b5, 0, none⟩) (block_lt k5)).trans k5, (hV.cell (p := ⟨g, 0, none⟩) (block_lt kg)).trans kg, (hV.cell (p := ⟨b, 2, none⟩) l2).trans c2⟩ : V.cell? ⟨b4, 0, none⟩ = some (.string ⟨v.toArray⟩) ∧ V.cell? ⟨b3, 0, none⟩ = some (.pointer (some ⟨b, 0, none⟩)) ∧ V.cell? ⟨b5, 0, none⟩ = some (.slice (some ⟨g, 0, none⟩) n c) ∧ V.cell? ⟨g, 0, none⟩ = some (.int .i64 x) ∧ V.cell? ⟨b, 2, none⟩ = some (.pointer (some ⟨bt, 0, none⟩))))
  have hbd : Below w.heap.size w w.drew := (Below.refl _ _).drew
  have hn0 : (0 : Int) < (n : Int) := by omega
  clear h hTr hT hl8 ht l2 c2
  generalize told T.S.Wr x = r at *
  go_enter Tryz.func85, Tryz.ntmps85
  go_wp2_with fail
  go_region_held3 (fun V => V.cell? ⟨b4, 0, none⟩ = some (.string ⟨v.toArray⟩) ∧ V.cell? ⟨b3, 0, none⟩ = some (.pointer (some ⟨b, 0, none⟩)) ∧ V.cell? ⟨b5, 0, none⟩ = some (.slice (some ⟨g, 0, none⟩) n c) ∧ V.cell? ⟨g, 0, none⟩ = some (.int .i64 x) ∧ V.cell? ⟨b, 2, none⟩ = some (.pointer (some ⟨bt, 0, none⟩)))
    ((refine HK.out _ ?_; repeat (first | assumption | exact Below.refl _ _ | refine Below.drew ?_)))
    ((first | (go_at_call 86; with_reducible refine (CR.out _ (by repeat (first | assumption | exact Below.refl _ _ | refine Below.drew ?_))).mono ?_; rintro e w4 ⟨rfl, rfl⟩) | (go_at_call 83; with_reducible refine (CS.out _ (by repeat (first | assumption | exact Below.refl _ _ | refine Below.drew ?_))).mono ?_; rintro e w5 ⟨rfl, hb5⟩; have hb5' := hbd.trans (hb5.mono hbd.size))))
  all_goals
    go_wp2_with fail
    go_ret
    exact ⟨rfl, hb5'⟩
set_option maxHeartbeats 4000000 in
theorem actHolds_any {T : TS} {b3 b4 b5 g n c : Nat} {x : Int} (v : List UInt8) (hv : v.length ≤ 1000) (hG : Glob W0) (hbW : Below W0.heap.size W0 w) (h : DkAt W0.heap.size own w b D) (hT : D.T = some T) (hn : 0 < n)
    (k4 : w.cell? ⟨b4, 0, none⟩ = some (.string ⟨v.toArray⟩)) (k3 : w.cell? ⟨b3, 0, none⟩ = some (.pointer (some ⟨b, 0, none⟩))) (k5 : w.cell? ⟨b5, 0, none⟩ = some (.slice (some ⟨g, 0, none⟩) n c)) (kg : w.cell? ⟨g, 0, none⟩ = some (.int .i64 x)) :
    Calls Tryz.prog 87 #[.pointer (some ⟨b4, 0, none⟩), .pointer (some ⟨b3, 0, none⟩), .pointer (some ⟨b5, 0, none⟩)] w fun e w' => e = .returned (.string ⟨(setV v (told T.S.Ho x)).toArray⟩) ∧ Below w.heap.size w w' := by
  obtain ⟨Uv, Fv, tp, tq, h⟩ := h
  obtain ⟨bt, p, vv, A, htp, hTr⟩ := h.trail hT
  subst htp
  have hl8 : T.S.Ho.length < 2 ^ 60 := by
    have h1 := (h.tlen hT).re
    have h2 := (h.tlen hT).ho
    have := h.ok.m8
    have := h.ok.n8
    omega
  have ht := (told_lt (h.tlen hT) x)
  have CR := Lib.hid (fun V (hV : Below w.heap.size w V) => THolds_any (hTr.below hV) hl8 x)
  have CS := Lib.hid (fun V (hV : Below w.heap.size w V) => Set_any hG (hbW.trans (hV.mono hbW.size)) v hv (told T.S.Ho x) ht.2.2)
  have c2 : w.cell? ⟨b, 2, none⟩ = some (.pointer (some ⟨bt, 0, none⟩)) := h.box.cell rfl
  have l2 := block_lt c2
  have HK := Lib.hid (fun V (hV : Below w.heap.size w V) => (⟨(hV.cell (p := ⟨b4, 0, none⟩) (block_lt k4)).trans k4, (hV.cell (p := ⟨b3, 0, none⟩) (block_lt k3)).trans k3, (hV.cell (p := ⟨b5, 0, none⟩) (block_lt k5)).trans k5, (hV.cell (p := ⟨g, 0, none⟩) (block_lt kg)).trans kg, (hV.cell (p := ⟨b, 2, none⟩) l2).trans c2⟩ : V.cell? ⟨b4, 0, none⟩ = some (.string ⟨v.toArray⟩) ∧ V.cell? ⟨b3, 0, none⟩ = some (.pointer (some ⟨b, 0, none⟩)) ∧ V.cell? ⟨b5, 0, none⟩ = some (.slice (some ⟨g, 0, none⟩) n c) ∧ V.cell? ⟨g, 0, none⟩ = some (.int .i64 x) ∧ V.cell? ⟨b, 2, none⟩ = some (.pointer (some ⟨bt, 0, none⟩))))
  have hbd : Below w.heap.size w w.drew := (Below.refl _ _).drew
  have hn0 : (0 : Int) < (n : Int) := by omega
  clear h hTr hT hl8 ht l2 c2
  generalize told T.S.Ho x = r at *
  go_enter Tryz.func87, Tryz.ntmps87
  go_wp2_with fail
  go_region_held3 (fun V => V.cell? ⟨b4, 0, none⟩ = some (.string ⟨v.toArray⟩) ∧ V.cell? ⟨b3, 0, none⟩ = some (.pointer (some ⟨b, 0, none⟩)) ∧ V.cell? ⟨b5, 0, none⟩ = some (.slice (some ⟨g, 0, none⟩) n c) ∧ V.cell? ⟨g, 0, none⟩ = some (.int .i64 x) ∧ V.cell? ⟨b, 2, none⟩ = some (.pointer (some ⟨bt, 0, none⟩)))
    ((refine HK.out _ ?_; repeat (first | assumption | exact Below.refl _ _ | refine Below.drew ?_)))
    ((first | (go_at_call 88; with_reducible refine (CR.out _ (by repeat (first | assumption | exact Below.refl _ _ | refine Below.drew ?_))).mono ?_; rintro e w4 ⟨rfl, rfl⟩) | (go_at_call 83; with_reducible refine (CS.out _ (by repeat (first | assumption | exact Below.refl _ _ | refine Below.drew ?_))).mono ?_; rintro e w5 ⟨rfl, hb5⟩; have hb5' := hbd.trans (hb5.mono hbd.size))))
  all_goals
    go_wp2_with fail
    go_ret
    exact ⟨rfl, hb5'⟩
set_option maxHeartbeats 4000000 in
theorem actCrash_any {T : TS} {b3 b5 g n c k : Nat} (hG : Glob W0) (hbW : Below W0.heap.size W0 w) (h : DkAt W0.heap.size own w b D) (hT : D.T = some T) (hn : 0 < n)
    (k3 : w.cell? ⟨b3, 0, none⟩ = some (.pointer (some ⟨b, 0, none⟩))) (k5 : w.cell? ⟨b5, 0, none⟩ = some (.slice (some ⟨g, 0, none⟩) n c)) (kg : w.cell? ⟨g, 0, none⟩ = some (.int .i64 k)) :
    Calls Tryz.prog 89 #[.pointer (some ⟨b3, 0, none⟩), .pointer (some ⟨b5, 0, none⟩)] w (DkPost W0.heap.size own w b (dCrash D T k)) := by
  have CC := Lib.hid (fun V (hV : Below w.heap.size w V) => ((Crash_any hG (hbW.trans (hV.mono hbW.size)) (h.below hV) hT k).mono fun e w' hp => (DkPost.next h hV hp).said : Calls Tryz.prog 90 #[.pointer (some ⟨b, 0, none⟩), .int .i64 k] V fun e w' => e = .returned (.string ⟨(dCrash D T k).2.toArray⟩) ∧ DkPost W0.heap.size own w b (dCrash D T k) (.returned (.string ⟨(dCrash D T k).2.toArray⟩)) w'))
  have HK := Lib.hid (fun V (hV : Below w.heap.size w V) => (⟨(hV.cell (p := ⟨b3, 0, none⟩) (block_lt k3)).trans k3, (hV.cell (p := ⟨b5, 0, none⟩) (block_lt k5)).trans k5, (hV.cell (p := ⟨g, 0, none⟩) (block_lt kg)).trans kg⟩ : V.cell? ⟨b3, 0, none⟩ = some (.pointer (some ⟨b, 0, none⟩)) ∧ V.cell? ⟨b5, 0, none⟩ = some (.slice (some ⟨g, 0, none⟩) n c) ∧ V.cell? ⟨g, 0, none⟩ = some (.int .i64 k)))
  have hbd : Below w.heap.size w w.drew := (Below.refl _ _).drew
  have hn0 : (0 : Int) < (n : Int) := by omega
  clear h hT
  generalize dCrash D T k = r at *
  go_enter Tryz.func89, Tryz.ntmps89
  go_wp2_with fail
  go_region_with ((go_at_call 90; with_reducible refine (CC.out _ hbd).mono ?_; rintro e w4 ⟨rfl, hp2⟩))
  all_goals
    go_wp2_with fail
    go_ret
    exact hp2
end
end Go.Proofs.YtanlmfnhlldkeaaGreatDoor

namespace Go.Proofs.YtanlmfnhlldkeaaGreatDoor
open Go.RowKit
set_option maxRecDepth 100000
set_option linter.unusedVariables false

/-- What act hands on. -/
def ActPost (lo : Nat) (own : Nat → Prop) (w : World) (b : Nat) (r : Option (DS × List UInt8)) (e : Ending) (w' : World) : Prop := match r with
  | none => e = .returned (.tuple #[.string ⟨#[]⟩, .bool false]) ∧ Below w.heap.size w w'
  | some r => e = .returned (.tuple #[.string ⟨r.2.toArray⟩, .bool true]) ∧ DkPost lo own w b r (.returned (.string ⟨r.2.toArray⟩)) w'
theorem zeroInt (V : World) : (zeroValue 3).run Tryz.prog V = .ok (.int .i64 0) V := by kernel_rfl
theorem zeroFn (V : World) : (zeroValue 40).run Tryz.prog V = .ok .nilFunc V := by kernel_rfl
def kindM : Array MapEntry := #[⟨.string ⟨#[114, 101, 97, 100]⟩, .int .i64 0, 0⟩, ⟨.string ⟨#[119, 114, 105, 116, 101]⟩, .int .i64 1, 1⟩, ⟨.string ⟨#[100, 114, 111, 112]⟩, .int .i64 2, 2⟩, ⟨.string ⟨#[99, 111, 112, 121]⟩, .int .i64 3, 3⟩]
def doesM (p3 p4 p5 : Value) : Array MapEntry := #[⟨.string ⟨#[114, 101, 97, 100, 115]⟩, (.func (.func 82) #[] #[p4, p3, p5]), 0⟩, ⟨.string ⟨#[119, 114, 105, 116, 101, 115]⟩, (.func (.func 85) #[] #[p4, p3, p5]), 1⟩, ⟨.string ⟨#[104, 111, 108, 100, 115]⟩, (.func (.func 87) #[] #[p4, p3, p5]), 2⟩, ⟨.string ⟨#[99, 114, 97, 115, 104]⟩, (.func (.func 89) #[] #[p3, p5]), 3⟩]
theorem insK0 (w : World) : (Instr.mapUpdate 150 (.map (some w.heap.size)) (.string ⟨#[114, 101, 97, 100]⟩) (.int .i64 0)).run Tryz.prog (w.alloc (.map #[] 0)) = .ok () (w.alloc (.map #[⟨.string ⟨#[114, 101, 97, 100]⟩, .int .i64 0, 0⟩] 1)) :=
  run_insertS Tryz.underlying150 Tryz.underlying9 w #[] 0 ⟨#[114, 101, 97, 100]⟩ (.int .i64 0) (fun e he => absurd he List.not_mem_nil)
theorem insK1 (w : World) : (Instr.mapUpdate 150 (.map (some w.heap.size)) (.string ⟨#[119, 114, 105, 116, 101]⟩) (.int .i64 1)).run Tryz.prog (w.alloc (.map #[⟨.string ⟨#[114, 101, 97, 100]⟩, .int .i64 0, 0⟩] 1)) = .ok () (w.alloc (.map #[⟨.string ⟨#[114, 101, 97, 100]⟩, .int .i64 0, 0⟩, ⟨.string ⟨#[119, 114, 105, 116, 101]⟩, .int .i64 1, 1⟩] 2)) :=
  run_insertS Tryz.underlying150 Tryz.underlying9 w #[⟨.string ⟨#[114, 101, 97, 100]⟩, .int .i64 0, 0⟩] 1 ⟨#[119, 114, 105, 116, 101]⟩ (.int .i64 1) (by
    intro e he
    simp only [List.mem_cons, List.not_mem_nil, or_false] at he
    subst he <;> exact ⟨_, rfl, by decide⟩)
theorem insK2 (w : World) : (Instr.mapUpdate 150 (.map (some w.heap.size)) (.string ⟨#[100, 114, 111, 112]⟩) (.int .i64 2)).run Tryz.prog (w.alloc (.map #[⟨.string ⟨#[114, 101, 97, 100]⟩, .int .i64 0, 0⟩, ⟨.string ⟨#[119, 114, 105, 116, 101]⟩, .int .i64 1, 1⟩] 2)) = .ok () (w.alloc (.map #[⟨.string ⟨#[114, 101, 97, 100]⟩, .int .i64 0, 0⟩, ⟨.string ⟨#[119, 114, 105, 116, 101]⟩, .int .i64 1, 1⟩, ⟨.string ⟨#[100, 114, 111, 112]⟩, .int .i64 2, 2⟩] 3)) :=
  run_insertS Tryz.underlying150 Tryz.underlying9 w #[⟨.string ⟨#[114, 101, 97, 100]⟩, .int .i64 0, 0⟩, ⟨.string ⟨#[119, 114, 105, 116, 101]⟩, .int .i64 1, 1⟩] 2 ⟨#[100, 114, 111, 112]⟩ (.int .i64 2) (by
    intro e he
    simp only [List.mem_cons, List.not_mem_nil, or_false] at he
    rcases he with rfl | rfl <;> exact ⟨_, rfl, by decide⟩)
theorem insK3 (w : World) : (Instr.mapUpdate 150 (.map (some w.heap.size)) (.string ⟨#[99, 111, 112, 121]⟩) (.int .i64 3)).run Tryz.prog (w.alloc (.map #[⟨.string ⟨#[114, 101, 97, 100]⟩, .int .i64 0, 0⟩, ⟨.string ⟨#[119, 114, 105, 116, 101]⟩, .int .i64 1, 1⟩, ⟨.string ⟨#[100, 114, 111, 112]⟩, .int .i64 2, 2⟩] 3)) = .ok () (w.alloc (.map #[⟨.string ⟨#[114, 101, 97, 100]⟩, .int .i64 0, 0⟩, ⟨.string ⟨#[119, 114, 105, 116, 101]⟩, .int .i64 1, 1⟩, ⟨.string ⟨#[100, 114, 111, 112]⟩, .int .i64 2, 2⟩, ⟨.string ⟨#[99, 111, 112, 121]⟩, .int .i64 3, 3⟩] 4)) :=
  run_insertS Tryz.underlying150 Tryz.underlying9 w #[⟨.string ⟨#[114, 101, 97, 100]⟩, .int .i64 0, 0⟩, ⟨.string ⟨#[119, 114, 105, 116, 101]⟩, .int .i64 1, 1⟩, ⟨.string ⟨#[100, 114, 111, 112]⟩, .int .i64 2, 2⟩] 3 ⟨#[99, 111, 112, 121]⟩ (.int .i64 3) (by
    intro e he
    simp only [List.mem_cons, List.not_mem_nil, or_false] at he
    rcases he with rfl | rfl | rfl <;> exact ⟨_, rfl, by decide⟩)
theorem insD0 (w : World) (p3 p4 p5 : Value) : (Instr.mapUpdate 153 (.map (some w.heap.size)) (.string ⟨#[114, 101, 97, 100, 115]⟩) (.func (.func 82) #[] #[p4, p3, p5])).run Tryz.prog (w.alloc (.map #[] 0)) = .ok () (w.alloc (.map #[⟨.string ⟨#[114, 101, 97, 100, 115]⟩, (.func (.func 82) #[] #[p4, p3, p5]), 0⟩] 1)) :=
  run_insertS Tryz.underlying153 Tryz.underlying9 w #[] 0 ⟨#[114, 101, 97, 100, 115]⟩ (.func (.func 82) #[] #[p4, p3, p5]) (fun e he => absurd he List.not_mem_nil)
theorem insD1 (w : World) (p3 p4 p5 : Value) : (Instr.mapUpdate 153 (.map (some w.heap.size)) (.string ⟨#[119, 114, 105, 116, 101, 115]⟩) (.func (.func 85) #[] #[p4, p3, p5])).run Tryz.prog (w.alloc (.map #[⟨.string ⟨#[114, 101, 97, 100, 115]⟩, (.func (.func 82) #[] #[p4, p3, p5]), 0⟩] 1)) = .ok () (w.alloc (.map #[⟨.string ⟨#[114, 101, 97, 100, 115]⟩, (.func (.func 82) #[] #[p4, p3, p5]), 0⟩, ⟨.string ⟨#[119, 114, 105, 116, 101, 115]⟩, (.func (.func 85) #[] #[p4, p3, p5]), 1⟩] 2)) :=
  run_insertS Tryz.underlying153 Tryz.underlying9 w #[⟨.string ⟨#[114, 101, 97, 100, 115]⟩, (.func (.func 82) #[] #[p4, p3, p5]), 0⟩] 1 ⟨#[119, 114, 105, 116, 101, 115]⟩ (.func (.func 85) #[] #[p4, p3, p5]) (by
    intro e he
    simp only [List.mem_cons, List.not_mem_nil, or_false] at he
    subst he <;> exact ⟨_, rfl, by decide⟩)
theorem insD2 (w : World) (p3 p4 p5 : Value) : (Instr.mapUpdate 153 (.map (some w.heap.size)) (.string ⟨#[104, 111, 108, 100, 115]⟩) (.func (.func 87) #[] #[p4, p3, p5])).run Tryz.prog (w.alloc (.map #[⟨.string ⟨#[114, 101, 97, 100, 115]⟩, (.func (.func 82) #[] #[p4, p3, p5]), 0⟩, ⟨.string ⟨#[119, 114, 105, 116, 101, 115]⟩, (.func (.func 85) #[] #[p4, p3, p5]), 1⟩] 2)) = .ok () (w.alloc (.map #[⟨.string ⟨#[114, 101, 97, 100, 115]⟩, (.func (.func 82) #[] #[p4, p3, p5]), 0⟩, ⟨.string ⟨#[119, 114, 105, 116, 101, 115]⟩, (.func (.func 85) #[] #[p4, p3, p5]), 1⟩, ⟨.string ⟨#[104, 111, 108, 100, 115]⟩, (.func (.func 87) #[] #[p4, p3, p5]), 2⟩] 3)) :=
  run_insertS Tryz.underlying153 Tryz.underlying9 w #[⟨.string ⟨#[114, 101, 97, 100, 115]⟩, (.func (.func 82) #[] #[p4, p3, p5]), 0⟩, ⟨.string ⟨#[119, 114, 105, 116, 101, 115]⟩, (.func (.func 85) #[] #[p4, p3, p5]), 1⟩] 2 ⟨#[104, 111, 108, 100, 115]⟩ (.func (.func 87) #[] #[p4, p3, p5]) (by
    intro e he
    simp only [List.mem_cons, List.not_mem_nil, or_false] at he
    rcases he with rfl | rfl <;> exact ⟨_, rfl, by decide⟩)
theorem insD3 (w : World) (p3 p4 p5 : Value) : (Instr.mapUpdate 153 (.map (some w.heap.size)) (.string ⟨#[99, 114, 97, 115, 104]⟩) (.func (.func 89) #[] #[p3, p5])).run Tryz.prog (w.alloc (.map #[⟨.string ⟨#[114, 101, 97, 100, 115]⟩, (.func (.func 82) #[] #[p4, p3, p5]), 0⟩, ⟨.string ⟨#[119, 114, 105, 116, 101, 115]⟩, (.func (.func 85) #[] #[p4, p3, p5]), 1⟩, ⟨.string ⟨#[104, 111, 108, 100, 115]⟩, (.func (.func 87) #[] #[p4, p3, p5]), 2⟩] 3)) = .ok () (w.alloc (.map #[⟨.string ⟨#[114, 101, 97, 100, 115]⟩, (.func (.func 82) #[] #[p4, p3, p5]), 0⟩, ⟨.string ⟨#[119, 114, 105, 116, 101, 115]⟩, (.func (.func 85) #[] #[p4, p3, p5]), 1⟩, ⟨.string ⟨#[104, 111, 108, 100, 115]⟩, (.func (.func 87) #[] #[p4, p3, p5]), 2⟩, ⟨.string ⟨#[99, 114, 97, 115, 104]⟩, (.func (.func 89) #[] #[p3, p5]), 3⟩] 4)) :=
  run_insertS Tryz.underlying153 Tryz.underlying9 w #[⟨.string ⟨#[114, 101, 97, 100, 115]⟩, (.func (.func 82) #[] #[p4, p3, p5]), 0⟩, ⟨.string ⟨#[119, 114, 105, 116, 101, 115]⟩, (.func (.func 85) #[] #[p4, p3, p5]), 1⟩, ⟨.string ⟨#[104, 111, 108, 100, 115]⟩, (.func (.func 87) #[] #[p4, p3, p5]), 2⟩] 3 ⟨#[99, 114, 97, 115, 104]⟩ (.func (.func 89) #[] #[p3, p5]) (by
    intro e he
    simp only [List.mem_cons, List.not_mem_nil, or_false] at he
    rcases he with rfl | rfl | rfl <;> exact ⟨_, rfl, by decide⟩)
theorem kind_find (vs : ByteArray) : Instr.findNow .string (.string vs) kindM.toList 0 = (if vs.data.toList = vRead then some (some (0, .int .i64 0)) else if vs.data.toList = vWrite then some (some (1, .int .i64 1)) else if vs.data.toList = vDrop then some (some (2, .int .i64 2)) else if vs.data.toList = vCopy then some (some (3, .int .i64 3)) else some none) :=
  find4 vs ⟨#[114, 101, 97, 100]⟩ ⟨#[119, 114, 105, 116, 101]⟩ ⟨#[100, 114, 111, 112]⟩ ⟨#[99, 111, 112, 121]⟩ (.int .i64 0) (.int .i64 1) (.int .i64 2) (.int .i64 3) 0 1 2 3
theorem does_find (p3 p4 p5 : Value) (vs : ByteArray) : Instr.findNow .string (.string vs) (doesM p3 p4 p5).toList 0 = (if vs.data.toList = vReads then some (some (0, (.func (.func 82) #[] #[p4, p3, p5]))) else if vs.data.toList = vWrites then some (some (1, (.func (.func 85) #[] #[p4, p3, p5]))) else if vs.data.toList = vHolds then some (some (2, (.func (.func 87) #[] #[p4, p3, p5]))) else if vs.data.toList = vCrash then some (some (3, (.func (.func 89) #[] #[p3, p5]))) else some none) :=
  find4 vs ⟨#[114, 101, 97, 100, 115]⟩ ⟨#[119, 114, 105, 116, 101, 115]⟩ ⟨#[104, 111, 108, 100, 115]⟩ ⟨#[99, 114, 97, 115, 104]⟩ (.func (.func 82) #[] #[p4, p3, p5]) (.func (.func 85) #[] #[p4, p3, p5]) (.func (.func 87) #[] #[p4, p3, p5]) (.func (.func 89) #[] #[p3, p5]) 0 1 2 3
theorem kind_some {vs : ByteArray} {k : Nat} (h : kindV vs.data.toList = some k) : Instr.findNow .string (.string vs) kindM.toList 0 = some (some (k, .int .i64 k)) ∧ k < 4 := by
  rw [kind_find]
  unfold kindV at h
  by_cases h0 : vs.data.toList = vRead
  · rw [if_pos h0] at h ⊢; injection h with h; subst h; exact ⟨rfl, by decide⟩
  rw [if_neg h0] at h ⊢
  by_cases h1 : vs.data.toList = vWrite
  · rw [if_pos h1] at h ⊢; injection h with h; subst h; exact ⟨rfl, by decide⟩
  rw [if_neg h1] at h ⊢
  by_cases h2 : vs.data.toList = vDrop
  · rw [if_pos h2] at h ⊢; injection h with h; subst h; exact ⟨rfl, by decide⟩
  rw [if_neg h2] at h ⊢
  by_cases h3 : vs.data.toList = vCopy
  · rw [if_pos h3] at h ⊢; injection h with h; subst h; exact ⟨rfl, by decide⟩
  rw [if_neg h3] at h ⊢
  cases h
theorem kind_none {vs : ByteArray} (h : kindV vs.data.toList = none) : Instr.findNow .string (.string vs) kindM.toList 0 = some none := by
  rw [kind_find]
  unfold kindV at h
  by_cases h0 : vs.data.toList = vRead
  · rw [if_pos h0] at h; cases h
  rw [if_neg h0] at h ⊢
  by_cases h1 : vs.data.toList = vWrite
  · rw [if_pos h1] at h; cases h
  rw [if_neg h1] at h ⊢
  by_cases h2 : vs.data.toList = vDrop
  · rw [if_pos h2] at h; cases h
  rw [if_neg h2] at h ⊢
  by_cases h3 : vs.data.toList = vCopy
  · rw [if_pos h3] at h; cases h
  rw [if_neg h3] at h ⊢
def doF (p3 p4 p5 : Value) (j : Nat) : Value := match j with
  | 0 => (.func (.func 82) #[] #[p4, p3, p5])
  | 1 => (.func (.func 85) #[] #[p4, p3, p5])
  | 2 => (.func (.func 87) #[] #[p4, p3, p5])
  | _ => (.func (.func 89) #[] #[p3, p5])
theorem does_some (p3 p4 p5 : Value) {vs : ByteArray} {k : Nat} (h : doesV vs.data.toList = some k) : Instr.findNow .string (.string vs) (doesM p3 p4 p5).toList 0 = some (some (k, doF p3 p4 p5 k)) ∧ k < 4 := by
  rw [does_find]
  unfold doesV at h
  by_cases h0 : vs.data.toList = vReads
  · rw [if_pos h0] at h ⊢; injection h with h; subst h; exact ⟨rfl, by decide⟩
  rw [if_neg h0] at h ⊢
  by_cases h1 : vs.data.toList = vWrites
  · rw [if_pos h1] at h ⊢; injection h with h; subst h; exact ⟨rfl, by decide⟩
  rw [if_neg h1] at h ⊢
  by_cases h2 : vs.data.toList = vHolds
  · rw [if_pos h2] at h ⊢; injection h with h; subst h; exact ⟨rfl, by decide⟩
  rw [if_neg h2] at h ⊢
  by_cases h3 : vs.data.toList = vCrash
  · rw [if_pos h3] at h ⊢; injection h with h; subst h; exact ⟨rfl, by decide⟩
  rw [if_neg h3] at h ⊢
  cases h
theorem does_none (p3 p4 p5 : Value) {vs : ByteArray} (h : doesV vs.data.toList = none) : Instr.findNow .string (.string vs) (doesM p3 p4 p5).toList 0 = some none := by
  rw [does_find]
  unfold doesV at h
  by_cases h0 : vs.data.toList = vReads
  · rw [if_pos h0] at h; cases h
  rw [if_neg h0] at h ⊢
  by_cases h1 : vs.data.toList = vWrites
  · rw [if_pos h1] at h; cases h
  rw [if_neg h1] at h ⊢
  by_cases h2 : vs.data.toList = vHolds
  · rw [if_pos h2] at h; cases h
  rw [if_neg h2] at h ⊢
  by_cases h3 : vs.data.toList = vCrash
  · rw [if_pos h3] at h; cases h
  rw [if_neg h3] at h ⊢
theorem kind_does {l : List UInt8} {k : Nat} (h : kindV l = some k) : doesV l = none := by
  unfold kindV at h
  by_cases h0 : l = vRead
  · rw [h0]; decide
  rw [if_neg h0] at h
  by_cases h1 : l = vWrite
  · rw [h1]; decide
  rw [if_neg h1] at h
  by_cases h2 : l = vDrop
  · rw [h2]; decide
  rw [if_neg h2] at h
  by_cases h3 : l = vCopy
  · rw [h3]; decide
  rw [if_neg h3] at h
  cases h
end Go.Proofs.YtanlmfnhlldkeaaGreatDoor

namespace Go.Proofs.YtanlmfnhlldkeaaGreatDoor
open Go.RowKit
set_option maxRecDepth 100000
set_option linter.unusedVariables false

theorem wpAnyH_mono {P : Program} {md : Region.Mode} {ops : Array Oper} {Q : Exit → Act → World → Prop} {S S' : World → Prop} (h : ∀ w, S' w → S w) : ∀ (fuel : Nat) (listed : Array Bool) (a : Act) (w : World), wpAnyH P md ops Q S' fuel listed a w → wpAnyH P md ops Q S fuel listed a w
  | 0, _, _, _, hh => hh
  | fuel + 1, _, _, _, hh => ⟨hh.1, fun i hi => wpOp_mono (fun a' w' h' => ⟨h w' h'.1, wpAnyH_mono h fuel _ a' w' h'.2⟩) (hh.2 i hi)⟩
theorem addZ (g j : Nat) : (⟨g, 0, none⟩ : Addr).add j = ⟨g, j, none⟩ := by rw [Addr.add_lit, Nat.zero_add]
theorem run_push_keep (w : World) (ty : TypeId) {base g n c : Nat} {xs : List Int} (hn : xs.length = n) (hown : OwnI w base (.slice (some ⟨g, 0, none⟩) n c) xs) (p : Nat) (k : Int) (hc : w.cell? ⟨p, 0, none⟩ = some (.int .i64 k)) (hs : n < 2 ^ 40) (hbase : base ≤ w.heap.size) :
    ∃ B c' w', (Builtin.append_ #[24, 24] ty #[.slice (some ⟨g, 0, none⟩) n c, .slice (some ⟨p, 0, none⟩) 1 1]).run Tryz.prog w = .ok (.slice B (n + 1) c') w' ∧ IntsAt w' B (xs ++ [k]) ∧ w.grownBy w' (some g) ∧ (∀ j x, xs[j]? = some x → w'.cell? ⟨g, j, none⟩ = some (.int .i64 x)) ∧ ∀ b o, B = some ⟨b, o, none⟩ → base ≤ b := by
  have hown' : w.ownsRow base 3 1 (.slice (some ⟨g, 0, none⟩) n c) xs.length (xs.map (.int .i64)) := hown
  have hcells : CellsAt w (some ⟨p, 0, none⟩) [.int .i64 k] := fun _ => ⟨p, 0, rfl, fun j u hj => by
    match j, hj with
    | 0, hj => simp at hj; subst hj; simpa using hc
    | j + 1, hj => simp at hj⟩
  obtain ⟨v', w', hrun, hp⟩ := run_append_cells w ty eInts hown' (some ⟨p, 0, none⟩) 1 1 [.int .i64 k] hcells rfl (fun u hu => by simp at hu; subst hu; rfl) (by omega) (by omega) hbase
  have hpu := OwnI.pushed hp
  have hgr := hp.grew
  have hrow := hp.own
  obtain ⟨B, c', rfl, hi⟩ := hpu.form
  have hlen : (xs ++ [k]).length = n + 1 := by simp [hn]
  rw [hlen] at hrun
  rw [hlen] at hrow
  refine ⟨B, c', w', hrun, hi, hgr, ?_, fun b o e => (hrow.lt b (by rw [e]; rfl)).1⟩
  obtain ⟨i, z, hii, hz, hsize, hby, hzs⟩ := eInts.info
  have hnews : ∀ (j : Nat) (u : Value), ([.int .i64 k] : List Value)[j]? = some u → w.cell? ((⟨p, 0, none⟩ : Addr).add j) = some u := fun j u hj => by
    match j, hj with
    | 0, hj => simp at hj; subst hj; simpa [Addr.add] using hc
    | j + 1, hj => simp at hj
  have hold : ∀ j u, (xs.map (Value.int .i64))[j]? = some u → w.cell? ((⟨g, 0, none⟩ : Addr).add j) = some u := hown'.cells (g := g) rfl
  intro j x hx
  have hxm : (xs.map (Value.int .i64))[j]? = some (.int .i64 x) := by simp [hx]
  have hjl : j < xs.length := (List.getElem?_eq_some_iff.1 hx).1
  rcases hown'.2 with ⟨hv, _⟩ | ⟨g', cap, cur, hv, hbg, hg, hnc, hcm, hcs, htake⟩
  · cases hv
  · injection hv with ha hm hcap
    injection ha with ha
    injection ha with hgg _ _
    subst hgg hcap
    by_cases hroom : n + 1 ≤ c
    · have hr := run_append_room (P := Tryz.prog) w 24 ty 3 i Tryz.underlying24 hii g n c cur hg ⟨p, 0, none⟩ 1 1 [.int .i64 k] (by rw [hsize]; rfl) hnews (fun u hu => by simp at hu; subst hu; rfl) hroom (by rw [hsize, hcs]; simp; omega)
      rw [hrun] at hr
      injection hr with e1 e2
      injection e1 with e3
      subst e3
      have := hrow.cells (g := g) rfl j (.int .i64 x) (by rw [List.getElem?_append_left (by simpa using hjl)]; exact hxm)
      rw [addZ] at this
      exact this
    · have hr := run_append_grow (P := Tryz.prog) w 24 ty 3 i z Tryz.underlying24 hii hz ⟨g, 0, none⟩ n c (xs.map (Value.int .i64)) (by rw [hsize]; simp [hn]) hold ⟨p, 0, none⟩ 1 1 [.int .i64 k] (by rw [hsize]; rfl) hnews (by omega) (by omega) (by rw [hby]; exact growslice_fits (by omega) (by omega))
      rw [hrun] at hr
      injection hr with e1 e2
      have h0 : w.cell? ⟨g, j, none⟩ = some (.int .i64 x) := by have := hold j _ hxm; rw [addZ] at this; exact this
      rw [e2]
      have hb : Below w.heap.size w (w.drew.alloc (.cells ((xs.map (Value.int .i64)).toArray ++ [Value.int .i64 k].toArray ++ Builtin.zeroCells z.cells (grownCap w (n + 1) c 3 - (n + 1))) 3)) := ((Below.refl _ _).drew).alloc (Nat.le_refl _) _
      exact (hb.cell (p := ⟨g, j, none⟩) (block_lt h0)).trans h0
theorem castL_nth {l : List Nat} {j : Nat} (h : j < l.length) : (castL l)[j]? = some ((l.getD j 0 : Nat) : Int) := by
  unfold castL
  rw [List.getElem?_map, List.getElem?_eq_getElem h, List.getD_eq_getElem?_getD, List.getElem?_eq_getElem h]
  rfl
theorem OwnI.head {w : World} {base n c : Nat} {A : Option Addr} {xs : List Int} (h : OwnI w base (.slice A n c) xs) (hn : 0 < xs.length) : ∃ g, A = some ⟨g, 0, none⟩ ∧ base ≤ g ∧ g < w.heap.size ∧ ∀ j x, xs[j]? = some x → w.cell? ⟨g, j, none⟩ = some (.int .i64 x) := by
  have h' : w.ownsRow base 3 1 (.slice A n c) xs.length (xs.map (.int .i64)) := h
  rcases h'.2 with ⟨_, h0⟩ | ⟨g, cap, cur, hv, hbg, hg, r⟩
  · omega
  · injection hv with ha
    subst ha
    refine ⟨g, rfl, hbg, (Array.getElem?_eq_some_iff.1 hg).1, fun j x hx => ?_⟩
    have := h'.cells (g := g) rfl j (.int .i64 x) (by simp [hx])
    rw [addZ] at this
    exact this
theorem step_push_keep {w : World} {ops : Array Oper} {o : Oper} {a : Act} {K : Act → World → Prop} {Q : Exit → Act → World → Prop} {E : Prop} (hgd : o.guard = none) (s x : Operand)
    (ho : o.op = .call { callee := .builtin .append, args := #[s, x], argTypes := #[24, 24] })
    {base g n c : Nat} {xs : List Int} (hs : a.eval s = .slice (some ⟨g, 0, none⟩) n c) (hn : xs.length = n) (hown : OwnI w base (.slice (some ⟨g, 0, none⟩) n c) xs) (p : Nat) (k : Int) (hx : a.eval x = .slice (some ⟨p, 0, none⟩) 1 1) (hc : w.cell? ⟨p, 0, none⟩ = some (.int .i64 k))
    (hl : n < 2 ^ 40) (hbase : base ≤ w.heap.size)
    (h : ∀ B c' w', IntsAt w' B (xs ++ [k]) → w.grownBy w' (some g) → (∀ j x, xs[j]? = some x → w'.cell? ⟨g, j, none⟩ = some (.int .i64 x)) → (∀ b o, B = some ⟨b, o, none⟩ → base ≤ b) → K (a.put o.dst (.slice B (n + 1) c')) w') : if Region.wanted o (yielded ops a.tmps) = true then Oper.wp Tryz.prog o a w K Q else E := by
  have hw : Region.wanted o (yielded ops a.tmps) = true := by simp [Region.wanted, hgd]
  rw [if_pos hw]
  obtain ⟨B, c', w', hrun, h1, h2, h3, h4⟩ := run_push_keep w o.type hn hown p k hc hl hbase
  have := h B c' w' h1 h2 h3 h4
  unfold Oper.wp
  simp only [execOp, ho, resolve, invoke, builtin, Sem.run_bind, Sem.run_pure, Result.andThen_ok, List.map_toArray, List.map_cons, List.map_nil, hs, hx, hrun]
  exact this
end Go.Proofs.YtanlmfnhlldkeaaGreatDoor
