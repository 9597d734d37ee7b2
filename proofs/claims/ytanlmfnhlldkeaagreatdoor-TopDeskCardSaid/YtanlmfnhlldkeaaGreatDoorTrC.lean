/-
  Words: a trail in memory, and what is its own.
-/
import Derived.Test.YtanlmfnhlldkeaaGreatDoorAsA
import Derived.Test.YtanlmfnhlldkeaaGreatDoorTrB
import Derived.Test.YtanlmfnhlldkeaaGreatDoorBellB
import Derived.Test.YtanlmfnhlldkeaaGreatDoorBellN
import Derived.Test.YtanlmfnhlldkeaaGreatDoorItoa
namespace Go.Proofs.YtanlmfnhlldkeaaGreatDoor
open Go.RowKit
set_option maxRecDepth 100000
set_option linter.unusedVariables false

section
variable {w w' : World}
theorem cell_keepB {a : Addr} (h : w'.heap[a.block]? = w.heap[a.block]?) : w'.cell? a = w.cell? a := by unfold World.cell?; rw [h]
theorem IntsAt.keepB {A : Option Addr} {l : List Int} (h : IntsAt w A l) (hk : l ≠ [] → ∀ k o, A = some ⟨k, o, none⟩ → w'.heap[k]? = w.heap[k]?) : IntsAt w' A l := fun hl => by
  obtain ⟨b, off, rfl, hc⟩ := h hl
  exact ⟨b, off, rfl, fun j x hx => (cell_keepB (hk hl b off rfl)).trans (hc j x hx)⟩
theorem OwnAt.keepB {g : Nat} {e : TypeId} {l : List Value} (h : OwnAt w g e l) (hk : w'.heap[g]? = w.heap[g]?) : OwnAt w' g e l := by
  obtain ⟨cur, hg, r⟩ := h
  exact ⟨cur, hk.trans hg, r⟩
/-- The blocks of a monitor's rows, those that hold something. -/
def LA.has (A : LA) (U F : List Int) (k : Nat) : Prop :=
  (U ≠ [] ∧ ∃ o, A.Au = some ⟨k, o, none⟩) ∨ (F ≠ [] ∧ ∃ o, A.Af = some ⟨k, o, none⟩) ∨ (U ≠ [] ∧ ∃ o, A.Ar = some ⟨k, o, none⟩) ∨ (U ≠ [] ∧ ∃ o, A.Aw = some ⟨k, o, none⟩) ∨ (F ≠ [] ∧ ∃ o, A.Ah = some ⟨k, o, none⟩)
theorem LA.low_has {A : LA} {base : Nat} {U F : List Int} (h : A.low base U F) {k : Nat} (hk : A.has U F k) : base ≤ k := by
  obtain ⟨h1, h2, h3, h4, h5⟩ := h
  rcases hk with ⟨hu, o, e⟩ | ⟨hu, o, e⟩ | ⟨hu, o, e⟩ | ⟨hu, o, e⟩ | ⟨hu, o, e⟩
  · obtain ⟨g, e', hg⟩ := h1 hu; rw [e] at e'; injection e' with e'; injection e' with e'; omega
  · obtain ⟨g, e', hg⟩ := h2 hu; rw [e] at e'; injection e' with e'; injection e' with e'; omega
  · obtain ⟨g, e', hg⟩ := h3 hu; rw [e] at e'; injection e' with e'; injection e' with e'; omega
  · obtain ⟨g, e', hg⟩ := h4 hu; rw [e] at e'; injection e' with e'; injection e' with e'; omega
  · obtain ⟨g, e', hg⟩ := h5 hu; rw [e] at e'; injection e' with e'; injection e' with e'; omega
section
variable {base p : Nat} {U F : List Int} {S : LS} {A : LA}
theorem castL_ne {l : List Nat} (h : castL l ≠ []) : l ≠ [] := fun e => h (by rw [e]; rfl)
theorem BellAt.uNe (h : BellAt w base p U F S A) (hr : S.Re ≠ []) : U ≠ [] := fun e => by
  have h2 := h.lu; rw [e, List.length_nil] at h2; exact hr (List.length_eq_zero_iff.1 (by omega))
theorem BellAt.fNe (h : BellAt w base p U F S A) (hr : S.Ho ≠ []) : F ≠ [] := fun e => by
  have h2 := h.lf; rw [e, List.length_nil] at h2; exact hr (List.length_eq_zero_iff.1 (by omega))
theorem BellAt.wNe (h : BellAt w base p U F S A) (hr : S.Wr ≠ []) : S.Re ≠ [] := fun e => by
  have h2 := h.lw; rw [e, List.length_nil] at h2; exact hr (List.length_eq_zero_iff.1 (by omega))
/-- The monitor stays where its own blocks do. -/
theorem BellAt.keepB (h : BellAt w base p U F S A) (hp : w'.heap[p]? = w.heap[p]?) (hk : ∀ k, A.has U F k → w'.heap[k]? = w.heap[k]?) : BellAt w' base p U F S A := by
  refine ⟨h.bp, hp.trans h.box, h.lu, h.lf, h.lw, h.iu.keepB fun hl k o e => hk k (.inl ⟨hl, o, e⟩), h.if_.keepB fun hl k o e => hk k (.inr (.inl ⟨hl, o, e⟩)), h.ir.keepB fun hl k o e => hk k (.inr (.inr (.inl ⟨h.uNe (castL_ne hl), o, e⟩))),
    h.iw.keepB fun hl k o e => hk k (.inr (.inr (.inr (.inl ⟨h.uNe (h.wNe (castL_ne hl)), o, e⟩)))), h.ih.keepB fun hl k o e => hk k (.inr (.inr (.inr (.inr ⟨h.fNe (castL_ne hl), o, e⟩)))), fun h1 h2 => ?_⟩
  obtain ⟨gu, gf, gr, gw, gh, e1, e2, e3, e4, e5, ho⟩ := h.own h1 h2
  have hu := h.uNe h1
  have hf := h.fNe h2
  exact ⟨gu, gf, gr, gw, gh, e1, e2, e3, e4, e5, ho.bu, ho.bf, ho.br, ho.bw, ho.bh, ho.ou.keepB (hk _ (.inl ⟨hu, _, e1⟩)), ho.of_.keepB (hk _ (.inr (.inl ⟨hf, _, e2⟩))), ho.or_.keepB (hk _ (.inr (.inr (.inl ⟨hu, _, e3⟩)))), ho.ow.keepB (hk _ (.inr (.inr (.inr (.inl ⟨hu, _, e4⟩))))), ho.oh.keepB (hk _ (.inr (.inr (.inr (.inr ⟨hf, _, e5⟩))))), ho.rw, ho.rh, ho.wh⟩
end
theorem BellAt.has_of {base p : Nat} {U F : List Int} {S : LS} {A : LA} (h : BellAt w base p U F S A) (h1 : S.Re ≠ []) (h2 : S.Ho ≠ []) {g : Nat} (hg : A.Ar = some ⟨g, 0, none⟩ ∨ A.Aw = some ⟨g, 0, none⟩ ∨ A.Ah = some ⟨g, 0, none⟩) : A.has U F g := by
  rcases hg with e | e | e
  · exact .inr (.inr (.inl ⟨h.uNe h1, 0, e⟩))
  · exact .inr (.inr (.inr (.inl ⟨h.uNe h1, 0, e⟩)))
  · exact .inr (.inr (.inr (.inr ⟨h.fNe h2, 0, e⟩)))
theorem Trl.setC {N : TF} {b : Nat} {v : Value} {bs : List Value} (h : Trl N b v bs w) (x : Value) : Trl ⟨N.m, N.k, x⟩ b v bs (w.setCell ⟨b, 4, none⟩ x) := by
  have go : ∀ p, TrlAt N b p v bs w → TrlAt ⟨N.m, N.k, x⟩ b p v bs (w.setCell ⟨b, 4, none⟩ x) := fun p h => ⟨h.box.set 4 x, h.2.kept (grown_setCell w b 4 x) (Or.inr h.ne)⟩
  exact h.elim (fun h => .inl (go _ h)) (fun h => .inr (go _ h))
theorem Trl.setK {N : TF} {b : Nat} {v : Value} {bs : List Value} (h : Trl N b v bs w) (x : Value) : Trl ⟨N.m, x, N.c⟩ b v bs (w.setCell ⟨b, 3, none⟩ x) := by
  have go : ∀ p, TrlAt N b p v bs w → TrlAt ⟨N.m, x, N.c⟩ b p v bs (w.setCell ⟨b, 3, none⟩ x) := fun p h => ⟨h.box.set 3 x, h.2.kept (grown_setCell w b 3 x) (Or.inr h.ne)⟩
  exact h.elim (fun h => .inl (go _ h)) (fun h => .inr (go _ h))
theorem Trl.cells {N : TF} {b : Nat} {v : Value} {bs : List Value} (h : Trl N b v bs w) : w.cell? ⟨b, 0, none⟩ = some N.m ∧ w.cell? ⟨b, 3, none⟩ = some N.k ∧ w.cell? ⟨b, 4, none⟩ = some N.c ∧ w.frozen? ⟨b, 3, none⟩ = false ∧ w.frozen? ⟨b, 4, none⟩ = false :=
  h.elim (fun h => ⟨h.box.cell rfl, h.box.cell rfl, h.box.cell rfl, h.box.free 3, h.box.free 4⟩) (fun h => ⟨h.box.cell rfl, h.box.cell rfl, h.box.cell rfl, h.box.free 3, h.box.free 4⟩)
/-- What all of the program may lean on: tables, handles, errors. -/
structure Glob (W : World) : Prop where
  tab : Tab W
  err : ErrT W
  pow : Pow10 W.heap.size W
  num : ∀ V, Below W.heap.size W V → (∃ te pe, V.cell? ⟨2, 0, none⟩ = some (.iface te pe)) ∧ ∃ te pe, V.cell? ⟨3, 0, none⟩ = some (.iface te pe)
theorem Glob.itoa {W0 : World} (h : Glob W0) {V : World} (hV : Below W0.heap.size W0 V) (n : Nat) (hn : n ≤ 9223372036854775807) :
    Calls Tryz.prog 52 #[.int .i64 n] V fun e w' => e = .returned (.string ⟨(Lib.itoa (n : Int)).toArray⟩) ∧ Below V.heap.size V w' := Itoa_any (n : Int) (by omega) V (h.pow V hV)
/-- A trail at b, with what is its own (all from lo on). -/
structure TrailAt (lo : Nat) (own : Nat → Prop) (w : World) (b m : Nat) (v : Value) (A : LA) (U F : List Int) (T : TS) : Prop where
  trl : Trl ⟨.pointer (some ⟨m, 0, none⟩), .int .i64 T.many, .int .i64 T.chain⟩ b v (Lib.byteCells T.log) w
  bell : BellAt w 0 m U F T.S A
  ob : own b
  om : own m
  ov : ∀ g, v.ownBlock = some g → own g
  oa : ∀ g, A.has U F g → own g
  nb : ¬ A.has U F b
  nv : ∀ g, v.ownBlock = some g → ¬ A.has U F g
  lt : ∀ k, own k → k < w.heap.size
  low : ∀ k, own k → lo ≤ k
theorem trail_ne_bell : (193 : TypeId) ≠ 226 := by decide
theorem u8_ne_bell : (5 : TypeId) ≠ 226 := by decide
theorem box_ne {b c : Nat} {t t' : TypeId} {vs us : Array Value} (h : BoxN w b t vs) (h' : BoxN w c t' us) (hne : t ≠ t') : b ≠ c := by
  rintro rfl
  have h2 : w.heap[b]? = _ := h
  have h3 : w.heap[b]? = _ := h'
  rw [h2] at h3
  injection h3 with h3
  injection h3 with _ h3
  exact hne h3
section
variable {lo b m : Nat} {own : Nat → Prop} {v : Value} {A : LA} {U F : List Int} {T : TS}
theorem TrailAt.boxes (h : TrailAt lo own w b m v A U F T) : ∃ p, (p = .pointer none ∨ p = .pointer (some ⟨b, 1, none⟩)) ∧ BoxN w b 193 #[.pointer (some ⟨m, 0, none⟩), p, v, .int .i64 T.many, .int .i64 T.chain] := by
  rcases h.trl with h | h
  · exact ⟨_, .inl rfl, h.box⟩
  · exact ⟨_, .inr rfl, h.box⟩
theorem TrailAt.bm (h : TrailAt lo own w b m v A U F T) : b ≠ m := by
  obtain ⟨p, _, hb⟩ := h.boxes
  exact box_ne hb h.bell.box trail_ne_bell
theorem TrailAt.vm (h : TrailAt lo own w b m v A U F T) : v.ownBlock ≠ some m := by
  have hrow : w.ownsRowF 0 5 1 v (Lib.byteCells T.log).length (Lib.byteCells T.log) := h.trl.elim (fun h => h.2) (fun h => h.2)
  exact Lib.ownBlock_neF hrow h.bell.box u8_ne_bell.symm
/-- A trail stays where its own blocks do. -/
theorem TrailAt.keep (h : TrailAt lo own w b m v A U F T) (hk : ∀ k, own k → w'.heap[k]? = w.heap[k]?) (hs : w.heap.size ≤ w'.heap.size) : TrailAt lo own w' b m v A U F T :=
  ⟨h.trl.keep (hk b h.ob) fun g hg => hk g (h.ov g hg), h.bell.keepB (hk m h.om) fun k hh => hk k (h.oa k hh), h.ob, h.om, h.ov, h.oa, h.nb, h.nv, fun k hh => Nat.lt_of_lt_of_le (h.lt k hh) hs, h.low⟩
theorem TrailAt.below (h : TrailAt lo own w b m v A U F T) (hb : Below w.heap.size w w') : TrailAt lo own w' b m v A U F T := h.keep (fun k hh => hb.block k (h.lt k hh)) hb.size
theorem TrailAt.keeps (h : TrailAt lo own w b m v A U F T) {S : Nat → Prop} (hq : QKeeps S w w') (hS : ∀ k, own k → ¬ S k) : TrailAt lo own w' b m v A U F T := h.keep (fun k hh => hq.block k (h.lt k hh) (hS k hh)) hq.size
end
end
/-- Number j of five. -/
theorem index5_0 (v0 v1 v2 v3 v4 : Int) (V : World) : (Instr.index 201 (.agg #[.int .i64 v0, .int .i64 v1, .int .i64 v2, .int .i64 v3, .int .i64 v4]) (.int .i64 0)).run Tryz.prog V = .ok (.int .i64 v0) V := by kernel_rfl
theorem index5_1 (v0 v1 v2 v3 v4 : Int) (V : World) : (Instr.index 201 (.agg #[.int .i64 v0, .int .i64 v1, .int .i64 v2, .int .i64 v3, .int .i64 v4]) (.int .i64 1)).run Tryz.prog V = .ok (.int .i64 v1) V := by kernel_rfl
theorem index5_2 (v0 v1 v2 v3 v4 : Int) (V : World) : (Instr.index 201 (.agg #[.int .i64 v0, .int .i64 v1, .int .i64 v2, .int .i64 v3, .int .i64 v4]) (.int .i64 2)).run Tryz.prog V = .ok (.int .i64 v2) V := by kernel_rfl
theorem index5_3 (v0 v1 v2 v3 v4 : Int) (V : World) : (Instr.index 201 (.agg #[.int .i64 v0, .int .i64 v1, .int .i64 v2, .int .i64 v3, .int .i64 v4]) (.int .i64 3)).run Tryz.prog V = .ok (.int .i64 v3) V := by kernel_rfl
theorem index5_4 (v0 v1 v2 v3 v4 : Int) (V : World) : (Instr.index 201 (.agg #[.int .i64 v0, .int .i64 v1, .int .i64 v2, .int .i64 v3, .int .i64 v4]) (.int .i64 4)).run Tryz.prog V = .ok (.int .i64 v4) V := by kernel_rfl
end Go.Proofs.YtanlmfnhlldkeaaGreatDoor
