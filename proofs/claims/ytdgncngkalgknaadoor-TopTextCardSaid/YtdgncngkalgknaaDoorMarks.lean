/-
  Words for ranges over functions: the marks that they leave among the deferred calls; what lies behind a turn of blocks that hold no cells. No program is looked at.
-/
import Derived.Test.YtdgncngkalgknaaDoorBase
import Derived.RangeFuncNested
import Derived.RangeFuncLeaves
import Derived.Lib.OthersKept
namespace Go.Proofs.YtdgncngkalgknaaDoor
open Go.RowKit

/-- All cells read as they did, no block of cells has gone. -/
structure SameCells (w w' : World) : Prop where
  cell : ∀ a, w'.cell? a = w.cell? a
  frozen : ∀ a, w'.frozen? a = w.frozen? a

/-- A turn of one block that holds no cells into another that holds none. -/
theorem sameCells_putObj {w : World} {D : Nat} {o o' : Obj} (h : w.heap[D]? = some o) (ho : o.isCells = false) (ho' : o'.isCells = false) : SameCells w (w.putObj D o') := by
  have hD : D < w.heap.size := (Array.getElem?_eq_some_iff.1 h).1
  have e : (w.putObj D o').heap[D]? = some o' := by simp [World.putObj, hD]
  constructor
  · intro a
    by_cases hb : a.block = D
    · unfold World.cell?
      rw [hb, e, h]
      cases o <;> cases o' <;> simp_all [Obj.isCells]
    · exact World.cell?_of_block (World.putObj_heap_other (fun e => hb e))
  · intro a
    by_cases hb : a.block = D
    · unfold World.frozen?
      rw [hb, e, h]
      cases o <;> cases o' <;> simp_all [Obj.isCells]
    · exact World.frozen?_of_block (World.putObj_heap_other (fun e => hb e))
theorem SameCells.refl (w : World) : SameCells w w := ⟨fun _ => rfl, fun _ => rfl⟩
theorem SameCells.trans {a b c : World} (h : SameCells a b) (k : SameCells b c) : SameCells a c := ⟨fun x => (k.cell x).trans (h.cell x), fun x => (k.frozen x).trans (h.frozen x)⟩

/-- The marks that ranges have left: distinct blocks from B on, each an open list of no deferred calls. -/
def mark (D : Nat) : Deferred := { target := .collected D, args := #[] }
def MarksAt (B : Nat) (w : World) (Ds : List Nat) : Prop := Ds.Nodup ∧ ∀ D ∈ Ds, B ≤ D ∧ w.heap[D]? = some (.deferred (some []))
theorem MarksAt.nil {B : Nat} {w : World} : MarksAt B w [] := ⟨List.nodup_nil, fun _ h => by cases h⟩
theorem MarksAt.cons {B D : Nat} {w : World} {Ds : List Nat} (h : MarksAt B w Ds) (hB : B ≤ D) (hn : D ∉ Ds) (hD : w.heap[D]? = some (.deferred (some []))) : MarksAt B w (D :: Ds) :=
  ⟨List.nodup_cons.2 ⟨hn, h.1⟩, fun x hx => (List.mem_cons.1 hx).elim (fun e => by rw [e]; exact ⟨hB, hD⟩) (fun hx => h.2 x hx)⟩
theorem MarksAt.keep {B : Nat} {w w' : World} {Ds : List Nat} (h : MarksAt B w Ds) (hk : KeepsOthers w w') : MarksAt B w' Ds :=
  ⟨h.1, fun D hD => ⟨(h.2 D hD).1, hk.same D _ (h.2 D hD).2 rfl⟩⟩
theorem MarksAt.lt {B : Nat} {w : World} {Ds : List Nat} (h : MarksAt B w Ds) {D : Nat} (hD : D ∈ Ds) : D < w.heap.size := (Array.getElem?_eq_some_iff.1 (h.2 D hD).2).1

theorem keepsOthers_below {w w' : World} (h : Below w.heap.size w w') : KeepsOthers w w' :=
  ⟨h.size, fun k _ hk _ => (h.block k (Array.getElem?_eq_some_iff.1 hk).1).trans hk⟩
theorem keepsOthers_kept {e : TypeId} {b : Nat} {w w' : World} (h : Lib.OthersKept e (some b) w w') (hs : w.heap.size ≤ w'.heap.size) (hb : ∃ c t f, w.heap[b]? = some (.cells c t f)) : KeepsOthers w w' :=
  ⟨hs, fun k o hk ho => h k o hk (fun eq => by
    obtain ⟨c, t, f, hc⟩ := hb
    injection eq with eq
    subst eq
    rw [hk] at hc
    injection hc with hc
    subst hc
    cases ho) (fun c f eq => by subst eq; cases ho)⟩
theorem KeepsOthers.grownBy {w w' : World} {row : Option Nat} (hg : w.grownBy w' row) (hr : ∀ r, row = some r → ∃ c t f, w.heap[r]? = some (.cells c t f)) : KeepsOthers w w' :=
  ⟨hg.size, fun k o hk ho => (hg.block k (Array.getElem?_eq_some_iff.1 hk).1 (fun eq => by
    obtain ⟨c, t, f, hc⟩ := hr k eq.symm
    rw [hk] at hc
    injection hc with hc
    subst hc
    cases ho)).trans hk⟩

/-- Behind the marks: the frame leaves, in a world that reads as this one does. -/
theorem leaves_marks {F : Fence} {n : Nat} {P : Program} {fn : Func} {tmps : Array Value} {R : Ending → World → Prop} {B : Nat} : ∀ (Ds : List Nat) (w : World), MarksAt B w Ds →
    (∀ w', SameCells w w' → Below B w w' → KeepsFrom w.heap.size w w' → ∃ v, (results fn tmps).run P w' = .ok v w' ∧ R (.returned v) w') → LeavesInM F n P fn tmps R (Ds.map mark) .returning w
  | [], w, _, h => by
    obtain ⟨v, hv, hR⟩ := h w (SameCells.refl w) (Below.refl B w) (KeepsFrom.refl _ w)
    exact ⟨v, hv, hR⟩
  | D :: Ds, w, hM, h => by
    obtain ⟨hn, hall⟩ := hM
    have hD := hall D (List.mem_cons_self ..)
    have hlt : D < w.heap.size := (Array.getElem?_eq_some_iff.1 hD.2).1
    have hsz : (w.putObj D (.deferred none)).heap.size = w.heap.size := by simp [World.putObj]
    refine ⟨by simp, .inl ⟨D, _, rfl, run_takeDeferred hD.2, ?_⟩⟩
    refine leaves_marks Ds _ ⟨(List.nodup_cons.1 hn).2, fun x hx => ⟨(hall x (List.mem_cons_of_mem _ hx)).1, ?_⟩⟩ fun w' hw hb hk => ?_
    · rw [World.putObj_heap_other (fun e => (List.nodup_cons.1 hn).1 (by rw [← e]; exact hx))]
      exact (hall x (List.mem_cons_of_mem _ hx)).2
    · refine h w' ((sameCells_putObj hD.2 rfl rfl).trans hw) (Below.trans ((Below.refl B w).grown (grownBy_putObj' w D _) (by omega) (fun k e => by cases e; exact hD.1)) hb) ?_
      rw [hsz] at hk
      exact (KeepsFrom.of_grownBy (grownBy_putObj' w D _) (fun j e => by cases e; exact hlt)).trans hk

theorem builder_kept {T e : TypeId} {B b : Nat} {l : List Value} {w w' : World} {row : Option Nat} (h : Lib.IsBuilderF T e B b l w) (hg : w.grownBy w' row)
    (hr : ∀ r, row = some r → ∃ o : Obj, w.heap[r]? = some o ∧ o.isCells = false) : Lib.IsBuilderF T e B b l w' := by
  have go : ∀ p, Lib.BuilderAtF T e B b p l w → Lib.BuilderAtF T e B b p l w' := by
    rintro p ⟨hB, v, hb, hown, hne⟩
    refine ⟨hB, v, ?_, ?_, hne⟩
    · rw [hg.block b (Array.getElem?_eq_some_iff.1 hb).1 (fun eq => ?_)]
      · exact hb
      · obtain ⟨o, ho, hc⟩ := hr b eq.symm
        rw [hb] at ho
        injection ho with ho
        subst ho
        cases hc
    · refine hown.kept hg ?_
      cases hv : v.ownBlock with
      | none => exact .inl rfl
      | some k =>
        refine .inr fun eq => ?_
        obtain ⟨o, ho, hc⟩ := hr k eq.symm
        rcases hown.2 with ⟨rfl, _⟩ | ⟨g, cap, cur, fz, rfl, _, hcell, _⟩
        · cases hv
        · simp [Value.ownBlock] at hv
          subst hv
          rw [hcell] at ho
          injection ho with ho
          subst ho
          cases hc
  rcases h with h | h
  · exact .inl (go _ h)
  · exact .inr (go _ h)

theorem cell_new (w : World) (v : Value) (t : TypeId) : (w.alloc (.cells #[v] t)).cell? ⟨w.heap.size, 0, none⟩ = some v ∧ (w.alloc (.cells #[v] t)).frozen? ⟨w.heap.size, 0, none⟩ = false := by
  have h := heap_alloc_new w (.cells #[v] t)
  exact ⟨by unfold World.cell?; rw [h]; rfl, by unfold World.frozen?; rw [h]; rfl⟩
theorem cell_keep {w w' : World} {row : Option Nat} {a : Addr} {v : Value} (h : w.cell? a = some v) (hg : w.grownBy w' row) (hr : ∀ r, row = some r → ∃ o : Obj, w.heap[r]? = some o ∧ o.isCells = false) : w'.cell? a = some v := by
  refine hg.cell h fun eq => ?_
  obtain ⟨o, ho, hc⟩ := hr a.block eq.symm
  unfold World.cell? at h
  rw [ho] at h
  cases o <;> simp_all [Obj.isCells]
theorem frozen_keep {w w' : World} {row : Option Nat} {a : Addr} {v : Value} (h : w.cell? a = some v) (hg : w.grownBy w' row) (hr : ∀ r, row = some r → ∃ o : Obj, w.heap[r]? = some o ∧ o.isCells = false) : w'.frozen? a = w.frozen? a :=
  World.frozen?_of_block (hg.block a.block (block_lt h) fun eq => by
    obtain ⟨o, ho, hc⟩ := hr a.block eq.symm
    unfold World.cell? at h
    rw [ho] at h
    cases o <;> simp_all [Obj.isCells])
theorem below_own {n₀ B : Nat} {w₀ W W' : World} {row : Option Nat} (h : Below n₀ w₀ W) (hn : n₀ ≤ w₀.heap.size) (hB : n₀ ≤ B) (hg : W.grownBy W' row)
    (hr : ∀ r, row = some r → B ≤ r ∧ ∃ o : Obj, W.heap[r]? = some o ∧ o.isCells = false) : Below n₀ w₀ W' :=
  h.grown hg (Nat.le_trans hn h.size) (fun k e => Nat.le_trans hB (hr k e).1)
theorem built_cells {T e : TypeId} {B b : Nat} {l : List Value} {w : World} (h : Lib.IsBuilderF T e B b l w) : B ≤ b ∧ ∃ c t f, w.heap[b]? = some (.cells c t f) := by
  rcases h with ⟨hB, v, hb, _⟩ | ⟨hB, v, hb, _⟩
  · exact ⟨hB, _, _, _, hb⟩
  · exact ⟨hB, _, _, _, hb⟩
end Go.Proofs.YtdgncngkalgknaaDoor
