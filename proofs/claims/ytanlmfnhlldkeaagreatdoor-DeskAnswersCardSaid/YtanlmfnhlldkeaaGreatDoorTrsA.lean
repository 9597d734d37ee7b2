/-
  Contract: strconv.Itoa, by the shelf's; the powers of ten in their variable.
  Words: a trail in memory, and what is its own.
  Contract: (*trail.Trail).Ask.
  Contracts: a trail asked, made, read.
  A trail that was torn, or of which a byte was turned: plain laws.
-/
import Derived.Test.YtanlmfnhlldkeaaGreatDoorShelf
import Derived.Sort.Grow
import Derived.Below
import Derived.Lib.AppendIntMem
import Derived.Test.YtanlmfnhlldkeaaGreatDoorAsA
import Derived.Test.YtanlmfnhlldkeaaGreatDoorTrB
import Derived.Test.YtanlmfnhlldkeaaGreatDoorBelA
import Derived.Test.YtanlmfnhlldkeaaGreatDoorLoopA
import Derived.Lib.QuietBelow
import Derived.Deep.RegionHeld3
import Derived.Deep.RegionLaw
import Derived.Test.YtanlmfnhlldkeaaGreatDoorBaseA
namespace Go.Proofs.YtanlmfnhlldkeaaGreatDoor
open Go.RowKit
set_option maxRecDepth 100000
set_option linter.unusedVariables false

theorem below_grow (w : World) (k : Nat) (os : Array Obj) : Below w.heap.size w (Go.Sort.grow (w.drewN k) os) :=
  ⟨rfl, rfl, rfl, by simp [Go.Sort.grow, World.drewN], fun j hj => by simp [Go.Sort.grow, World.drewN, Array.getElem?_append, hj]⟩
/-- The powers of ten lie in their variable. -/
abbrev Pow10 (B : Nat) (w : World) : Prop := Lib.TabBelow Tryz.prog B w "internal/strconv.uint64pow10" .u64 Lib.pow10Tab
theorem Pow10.next {B C : Nat} {w w' : World} (h : Pow10 B w) (hb : Below B w w') (hC : B ≤ C) (hB : B ≤ w.heap.size) : Pow10 C w' := fun v hv => h v (hb.trans (hv.mono hC))
theorem Itoa_any (n : Int) (h : -9223372036854775808 ≤ n ∧ n ≤ 9223372036854775807) (w : World) (hP : Lib.TabIs Tryz.prog w "internal/strconv.uint64pow10" .u64 Lib.pow10Tab) :
    Calls Tryz.prog 52 #[.int .i64 n] w fun e w' => e = .returned (.string ⟨(Lib.itoa n).toArray⟩) ∧ Below w.heap.size w w' :=
  (Tryz.strconv_Itoa n h.1 h.2 w hP).mono fun e w' ⟨he, k, os, hw⟩ => ⟨he, hw ▸ below_grow w k os⟩
end Go.Proofs.YtanlmfnhlldkeaaGreatDoor

namespace Go.Proofs.YtanlmfnhlldkeaaGreatDoor
open Go.RowKit
set_option maxRecDepth 100000
set_option linter.unusedVariables false

section
variable {w w' : World}
theorem cell_keepB {a : Addr} (h : w'.heap[a.block]? = w.heap[a.block]?) : w'.cell? a = w.cell? a := by unfold World.cell?; rw [h]
theorem IntsAt.keepB {A : Option Addr} {l : List Int} (h : IntsAt w A l) (hk : l ≠ [] → ∀ k o, A = some ⟨k, o, none⟩ → w'.heap[k]? = w.heap[k]?) : IntsAt w' A l := fun hl => by
  obtain ⟨b, off, rfl, hc⟩ := h hl
  exact ⟨b, off, rfl, fun j x hx => (cell_keepB (hk hl b off rfl)).trans (hc j x hx)⟩
theorem OwnAt.keepB {g : Nat} {e : TypeId} {l : List Value} (h : OwnAt w g e l) (hk : w'.heap[g]? = w.heap[g]?) : OwnAt w' g e l := by
  obtain ⟨cur, hg, r⟩ := h
  exact ⟨cur, hk.trans hg, r⟩
/-- The blocks of a monitor's rows, those that hold something. -/
def LA.has (A : LA) (U F : List Int) (k : Nat) : Prop :=
  (U ≠ [] ∧ ∃ o, A.Au = some ⟨k, o, none⟩) ∨ (F ≠ [] ∧ ∃ o, A.Af = some ⟨k, o, none⟩) ∨ (U ≠ [] ∧ ∃ o, A.Ar = some ⟨k, o, none⟩) ∨ (U ≠ [] ∧ ∃ o, A.Aw = some ⟨k, o, none⟩) ∨ (F ≠ [] ∧ ∃ o, A.Ah = some ⟨k, o, none⟩)
theorem LA.low_has {A : LA} {base : Nat} {U F : List Int} (h : A.low base U F) {k : Nat} (hk : A.has U F k) : base ≤ k := by
  obtain ⟨h1, h2, h3, h4, h5⟩ := h
  rcases hk with ⟨hu, o, e⟩ | ⟨hu, o, e⟩ | ⟨hu, o, e⟩ | ⟨hu, o, e⟩ | ⟨hu, o, e⟩
  · obtain ⟨g, e', hg⟩ := h1 hu; rw [e] at e'; injection e' with e'; injection e' with e'; omega
  · obtain ⟨g, e', hg⟩ := h2 hu; rw [e] at e'; injection e' with e'; injection e' with e'; omega
  · obtain ⟨g, e', hg⟩ := h3 hu; rw [e] at e'; injection e' with e'; injection e' with e'; omega
  · obtain ⟨g, e', hg⟩ := h4 hu; rw [e] at e'; injection e' with e'; injection e' with e'; omega
  · obtain ⟨g, e', hg⟩ := h5 hu; rw [e] at e'; injection e' with e'; injection e' with e'; omega
section
variable {base p : Nat} {U F : List Int} {S : LS} {A : LA}
theorem castL_ne {l : List Nat} (h : castL l ≠ []) : l ≠ [] := fun e => h (by rw [e]; rfl)
theorem BellAt.uNe (h : BellAt w base p U F S A) (hr : S.Re ≠ []) : U ≠ [] := fun e => by
  have h2 := h.lu; rw [e, List.length_nil] at h2; exact hr (List.length_eq_zero_iff.1 (by omega))
theorem BellAt.fNe (h : BellAt w base p U F S A) (hr : S.Ho ≠ []) : F ≠ [] := fun e => by
  have h2 := h.lf; rw [e, List.length_nil] at h2; exact hr (List.length_eq_zero_iff.1 (by omega))
theorem BellAt.wNe (h : BellAt w base p U F S A) (hr : S.Wr ≠ []) : S.Re ≠ [] := fun e => by
  have h2 := h.lw; rw [e, List.length_nil] at h2; exact hr (List.length_eq_zero_iff.1 (by omega))
/-- The monitor stays where its own blocks do. -/
theorem BellAt.keepB (h : BellAt w base p U F S A) (hp : w'.heap[p]? = w.heap[p]?) (hk : ∀ k, A.has U F k → w'.heap[k]? = w.heap[k]?) : BellAt w' base p U F S A := by
  refine ⟨h.bp, hp.trans h.box, h.lu, h.lf, h.lw, h.iu.keepB fun hl k o e => hk k (.inl ⟨hl, o, e⟩), h.if_.keepB fun hl k o e => hk k (.inr (.inl ⟨hl, o, e⟩)), h.ir.keepB fun hl k o e => hk k (.inr (.inr (.inl ⟨h.uNe (castL_ne hl), o, e⟩))),
    h.iw.keepB fun hl k o e => hk k (.inr (.inr (.inr (.inl ⟨h.uNe (h.wNe (castL_ne hl)), o, e⟩)))), h.ih.keepB fun hl k o e => hk k (.inr (.inr (.inr (.inr ⟨h.fNe (castL_ne hl), o, e⟩)))), fun h1 h2 => ?_⟩
  obtain ⟨gu, gf, gr, gw, gh, e1, e2, e3, e4, e5, ho⟩ := h.own h1 h2
  have hu := h.uNe h1
  have hf := h.fNe h2
  exact ⟨gu, gf, gr, gw, gh, e1, e2, e3, e4, e5, ho.bu, ho.bf, ho.br, ho.bw, ho.bh, ho.ou.keepB (hk _ (.inl ⟨hu, _, e1⟩)), ho.of_.keepB (hk _ (.inr (.inl ⟨hf, _, e2⟩))), ho.or_.keepB (hk _ (.inr (.inr (.inl ⟨hu, _, e3⟩)))), ho.ow.keepB (hk _ (.inr (.inr (.inr (.inl ⟨hu, _, e4⟩))))), ho.oh.keepB (hk _ (.inr (.inr (.inr (.inr ⟨hf, _, e5⟩))))), ho.rw, ho.rh, ho.wh⟩
end
theorem BellAt.has_of {base p : Nat} {U F : List Int} {S : LS} {A : LA} (h : BellAt w base p U F S A) (h1 : S.Re ≠ []) (h2 : S.Ho ≠ []) {g : Nat} (hg : A.Ar = some ⟨g, 0, none⟩ ∨ A.Aw = some ⟨g, 0, none⟩ ∨ A.Ah = some ⟨g, 0, none⟩) : A.has U F g := by
  rcases hg with e | e | e
  · exact .inr (.inr (.inl ⟨h.uNe h1, 0, e⟩))
  · exact .inr (.inr (.inr (.inl ⟨h.uNe h1, 0, e⟩)))
  · exact .inr (.inr (.inr (.inr ⟨h.fNe h2, 0, e⟩)))
theorem Trl.setC {N : TF} {b : Nat} {v : Value} {bs : List Value} (h : Trl N b v bs w) (x : Value) : Trl ⟨N.m, N.k, x⟩ b v bs (w.setCell ⟨b, 4, none⟩ x) := by
  have go : ∀ p, TrlAt N b p v bs w → TrlAt ⟨N.m, N.k, x⟩ b p v bs (w.setCell ⟨b, 4, none⟩ x) := fun p h => ⟨h.box.set 4 x, h.2.kept (grown_setCell w b 4 x) (Or.inr h.ne)⟩
  exact h.elim (fun h => .inl (go _ h)) (fun h => .inr (go _ h))
theorem Trl.setK {N : TF} {b : Nat} {v : Value} {bs : List Value} (h : Trl N b v bs w) (x : Value) : Trl ⟨N.m, x, N.c⟩ b v bs (w.setCell ⟨b, 3, none⟩ x) := by
  have go : ∀ p, TrlAt N b p v bs w → TrlAt ⟨N.m, x, N.c⟩ b p v bs (w.setCell ⟨b, 3, none⟩ x) := fun p h => ⟨h.box.set 3 x, h.2.kept (grown_setCell w b 3 x) (Or.inr h.ne)⟩
  exact h.elim (fun h => .inl (go _ h)) (fun h => .inr (go _ h))
theorem Trl.cells {N : TF} {b : Nat} {v : Value} {bs : List Value} (h : Trl N b v bs w) : w.cell? ⟨b, 0, none⟩ = some N.m ∧ w.cell? ⟨b, 3, none⟩ = some N.k ∧ w.cell? ⟨b, 4, none⟩ = some N.c ∧ w.frozen? ⟨b, 3, none⟩ = false ∧ w.frozen? ⟨b, 4, none⟩ = false :=
  h.elim (fun h => ⟨h.box.cell rfl, h.box.cell rfl, h.box.cell rfl, h.box.free 3, h.box.free 4⟩) (fun h => ⟨h.box.cell rfl, h.box.cell rfl, h.box.cell rfl, h.box.free 3, h.box.free 4⟩)
/-- What all of the program may lean on: tables, handles, errors. -/
structure Glob (W : World) : Prop where
  tab : Tab W
  err : ErrT W
  pow : Pow10 W.heap.size W
  num : ∀ V, Below W.heap.size W V → (∃ te pe, V.cell? ⟨2, 0, none⟩ = some (.iface te pe)) ∧ ∃ te pe, V.cell? ⟨3, 0, none⟩ = some (.iface te pe)
theorem Glob.itoa {W0 : World} (h : Glob W0) {V : World} (hV : Below W0.heap.size W0 V) (n : Nat) (hn : n ≤ 9223372036854775807) :
    Calls Tryz.prog 52 #[.int .i64 n] V fun e w' => e = .returned (.string ⟨(Lib.itoa (n : Int)).toArray⟩) ∧ Below V.heap.size V w' := Itoa_any (n : Int) (by omega) V (h.pow V hV)
/-- A trail at b, with what is its own (all from lo on). -/
structure TrailAt (lo : Nat) (own : Nat → Prop) (w : World) (b m : Nat) (v : Value) (A : LA) (U F : List Int) (T : TS) : Prop where
  trl : Trl ⟨.pointer (some ⟨m, 0, none⟩), .int .i64 T.many, .int .i64 T.chain⟩ b v (Lib.byteCells T.log) w
  bell : BellAt w 0 m U F T.S A
  ob : own b
  om : own m
  ov : ∀ g, v.ownBlock = some g → own g
  oa : ∀ g, A.has U F g → own g
  nb : ¬ A.has U F b
  nv : ∀ g, v.ownBlock = some g → ¬ A.has U F g
  lt : ∀ k, own k → k < w.heap.size
  low : ∀ k, own k → lo ≤ k
theorem trail_ne_bell : (193 : TypeId) ≠ 226 := by decide
theorem u8_ne_bell : (5 : TypeId) ≠ 226 := by decide
theorem box_ne {b c : Nat} {t t' : TypeId} {vs us : Array Value} (h : BoxN w b t vs) (h' : BoxN w c t' us) (hne : t ≠ t') : b ≠ c := by
  rintro rfl
  have h2 : w.heap[b]? = _ := h
  have h3 : w.heap[b]? = _ := h'
  rw [h2] at h3
  injection h3 with h3
  injection h3 with _ h3
  exact hne h3
section
variable {lo b m : Nat} {own : Nat → Prop} {v : Value} {A : LA} {U F : List Int} {T : TS}
theorem TrailAt.boxes (h : TrailAt lo own w b m v A U F T) : ∃ p, (p = .pointer none ∨ p = .pointer (some ⟨b, 1, none⟩)) ∧ BoxN w b 193 #[.pointer (some ⟨m, 0, none⟩), p, v, .int .i64 T.many, .int .i64 T.chain] := by
  rcases h.trl with h | h
  · exact ⟨_, .inl rfl, h.box⟩
  · exact ⟨_, .inr rfl, h.box⟩
theorem TrailAt.bm (h : TrailAt lo own w b m v A U F T) : b ≠ m := by
  obtain ⟨p, _, hb⟩ := h.boxes
  exact box_ne hb h.bell.box trail_ne_bell
theorem TrailAt.vm (h : TrailAt lo own w b m v A U F T) : v.ownBlock ≠ some m := by
  have hrow : w.ownsRowF 0 5 1 v (Lib.byteCells T.log).length (Lib.byteCells T.log) := h.trl.elim (fun h => h.2) (fun h => h.2)
  exact Lib.ownBlock_neF hrow h.bell.box u8_ne_bell.symm
/-- A trail stays where its own blocks do. -/
theorem TrailAt.keep (h : TrailAt lo own w b m v A U F T) (hk : ∀ k, own k → w'.heap[k]? = w.heap[k]?) (hs : w.heap.size ≤ w'.heap.size) : TrailAt lo own w' b m v A U F T :=
  ⟨h.trl.keep (hk b h.ob) fun g hg => hk g (h.ov g hg), h.bell.keepB (hk m h.om) fun k hh => hk k (h.oa k hh), h.ob, h.om, h.ov, h.oa, h.nb, h.nv, fun k hh => Nat.lt_of_lt_of_le (h.lt k hh) hs, h.low⟩
theorem TrailAt.below (h : TrailAt lo own w b m v A U F T) (hb : Below w.heap.size w w') : TrailAt lo own w' b m v A U F T := h.keep (fun k hh => hb.block k (h.lt k hh)) hb.size
theorem TrailAt.keeps (h : TrailAt lo own w b m v A U F T) {S : Nat → Prop} (hq : QKeeps S w w') (hS : ∀ k, own k → ¬ S k) : TrailAt lo own w' b m v A U F T := h.keep (fun k hh => hq.block k (h.lt k hh) (hS k hh)) hq.size
end
end
/-- Number j of five. -/
theorem index5_0 (v0 v1 v2 v3 v4 : Int) (V : World) : (Instr.index 201 (.agg #[.int .i64 v0, .int .i64 v1, .int .i64 v2, .int .i64 v3, .int .i64 v4]) (.int .i64 0)).run Tryz.prog V = .ok (.int .i64 v0) V := by kernel_rfl
theorem index5_1 (v0 v1 v2 v3 v4 : Int) (V : World) : (Instr.index 201 (.agg #[.int .i64 v0, .int .i64 v1, .int .i64 v2, .int .i64 v3, .int .i64 v4]) (.int .i64 1)).run Tryz.prog V = .ok (.int .i64 v1) V := by kernel_rfl
theorem index5_2 (v0 v1 v2 v3 v4 : Int) (V : World) : (Instr.index 201 (.agg #[.int .i64 v0, .int .i64 v1, .int .i64 v2, .int .i64 v3, .int .i64 v4]) (.int .i64 2)).run Tryz.prog V = .ok (.int .i64 v2) V := by kernel_rfl
theorem index5_3 (v0 v1 v2 v3 v4 : Int) (V : World) : (Instr.index 201 (.agg #[.int .i64 v0, .int .i64 v1, .int .i64 v2, .int .i64 v3, .int .i64 v4]) (.int .i64 3)).run Tryz.prog V = .ok (.int .i64 v3) V := by kernel_rfl
theorem index5_4 (v0 v1 v2 v3 v4 : Int) (V : World) : (Instr.index 201 (.agg #[.int .i64 v0, .int .i64 v1, .int .i64 v2, .int .i64 v3, .int .i64 v4]) (.int .i64 4)).run Tryz.prog V = .ok (.int .i64 v4) V := by kernel_rfl
end Go.Proofs.YtanlmfnhlldkeaaGreatDoor

namespace Go.Proofs.YtanlmfnhlldkeaaGreatDoor
open Go.RowKit
set_option maxRecDepth 100000
set_option linter.unusedVariables false

/-- What Ask hands on. -/
def AskPost (lo : Nat) (own : Nat → Prop) (w : World) (b m : Nat) (A : LA) (U F : List Int) (T : TS) (c : Nat) (e : Ending) (w' : World) : Prop :=
  e = .returned (errVal c) ∧ ∃ own' v', TrailAt lo own' w' b m v' A U F T ∧ (∀ g, own' g → own g ∨ w.heap.size ≤ g) ∧ QKeeps own w w'
section
variable {lo : Nat} {W0 w : World} {b m : Nat} {own : Nat → Prop} {v : Value} {A : LA} {U F : List Int} {T : TS}
/-- Behind what Ask wrote. -/
theorem TrailAt.said (h : TrailAt lo own w b m v A U F T) (hlo : lo ≤ w.heap.size) {w3 w12 w14 : World} {T' : TS} {c : Nat} {v' : Value} {w2 : World}
    (hq : QKeeps own w w3) (_h2 : w2.heap.size ≤ w3.heap.size) (hB : BellAt w3 0 m U F T'.S A)
    (hT : Trl ⟨.pointer (some ⟨m, 0, none⟩), .int .i64 T'.many, .int .i64 T'.chain⟩ b v' (Lib.byteCells T'.log) w14) (hgo : GoesOn w12 v v') (h12 : w3.heap.size ≤ w12.heap.size)
    (hq2 : QKeeps (fun g => g = b ∨ v.ownBlock = some g) w3 w14) : AskPost lo own w b m A U F T' c (.returned (errVal c)) w14 := by
  have hlt3 : ∀ g, own g → g < w3.heap.size := fun g hg => Nat.lt_of_lt_of_le (h.lt g hg) hq.size
  have hno : ∀ g, own g → g ≠ b → v.ownBlock ≠ some g → w14.heap[g]? = w3.heap[g]? := fun g hg h1 h2 => hq2.block g (hlt3 g hg) (fun e => e.elim h1 h2)
  have hnew : ∀ g, v'.ownBlock = some g → v.ownBlock = some g ∨ w3.heap.size ≤ g := fun g hg => by
    rcases hgo with e | ⟨x, hx, e⟩
    · exact .inl (e ▸ hg)
    · rw [hg] at e
      injection e with e
      subst e
      exact .inr (Nat.le_trans h12 hx)
  refine ⟨rfl, (fun g => own g ∨ v'.ownBlock = some g), v', ⟨hT, hB.keepB (hno m h.om h.bm.symm h.vm) fun k hk => hno k (h.oa k hk) (fun e => h.nb (e ▸ hk)) (fun e => h.nv k e hk), .inl h.ob, .inl h.om, fun g hg => .inr hg, fun g hg => .inl (h.oa g hg), h.nb, ?_, ?_, ?_⟩, ?_, hq.trans hq2 ?_⟩
  · intro g hg hh
    rcases hnew g hg with e | e
    · exact h.nv g e hh
    · have := hlt3 g (h.oa g hh)
      omega
  · rintro g (hg | hg)
    · exact Nat.lt_of_lt_of_le (hlt3 g hg) hq2.size
    · exact hT.vlt hg
  · rintro g (hg | hg)
    · exact h.low g hg
    · rcases hnew g hg with e | e
      · exact h.low g (h.ov g e)
      · have := hq.size
        omega
  · rintro g (hg | hg)
    · exact .inl hg
    · rcases hnew g hg with e | e
      · exact .inl (h.ov g e)
      · exact .inr (Nat.le_trans hq.size e)
  · rintro g (rfl | hg)
    · exact .inl h.ob
    · exact .inl (h.ov g hg)
set_option maxHeartbeats 4000000 in
theorem TAsk_full (h : TrailAt W0.heap.size own w b m v A U F T) (hm : T.many = 100) (k u f t : Int) :
    Calls Tryz.prog 91 #[.pointer (some ⟨b, 0, none⟩), .agg #[.int .i64 k, .int .i64 u, .int .i64 f, .int .i64 t]] w (AskPost W0.heap.size own w b m A U F T 4) := by
  obtain ⟨p, _, hb⟩ := h.boxes
  rw [hm] at hb
  have x3 := ((hb.alloc (.cells #[.int .i64 k, .int .i64 u, .int .i64 f, .int .i64 t] 157)).cell (k := 3) rfl)
  have hbw := (Below.refl w.heap.size w).alloc (Nat.le_refl _) (.cells #[.int .i64 k, .int .i64 u, .int .i64 f, .int .i64 t] 157)
  have h2 := Lib.hid (h.below hbw)
  clear hb h
  go_enter Tryz.func91, Tryz.ntmps91
  go_wp2_with fail
  go_ret
  exact ⟨rfl, own, v, h2.out, fun g hg => .inl hg, QKeeps.of_below hbw⟩
/- printed by tools/trask.py -/
set_option maxHeartbeats 16000000 in
theorem TAsk_copy (hG : Glob W0) (hbW : Below W0.heap.size W0 w) (h : TrailAt W0.heap.size own w b m v A U F T) (hI : TInv U F T) (hU : ∀ i, i < T.S.Re.length → labOk (gI U (i * 2)) (gI U (i * 2 + 1))) (hF : ∀ i, i < T.S.Ho.length → labOk (gI F (i * 2)) (gI F (i * 2 + 1)))
    (hm : T.many ≠ 100) (k u f t : Int) (hk3 : k = 3) :
    Calls Tryz.prog 91 #[.pointer (some ⟨b, 0, none⟩), .agg #[.int .i64 k, .int .i64 u, .int .i64 f, .int .i64 t]] w (AskPost W0.heap.size own w b m A U F (tAsk U F T k u f t).1 (tAsk U F T k u f t).2) := by
  subst hk3
  obtain ⟨p, hp, hb⟩ := h.boxes
  have d100 : ((T.many : Int) == 100) = false := by simp; omega
  have dk : (3 != 3) = false := by simp
  have hx0 : BoxN (w.alloc (.cells #[.int .i64 3, .int .i64 u, .int .i64 f, .int .i64 t] 157)) w.heap.size 157 #[.int .i64 3, .int .i64 u, .int .i64 f, .int .i64 t] := BoxN.new w _ _
  have hb0 := hb.alloc (.cells #[.int .i64 3, .int .i64 u, .int .i64 f, .int .i64 t] 157)
  have hbw0 : Below w.heap.size w (w.alloc (.cells #[.int .i64 3, .int .i64 u, .int .i64 f, .int .i64 t] 157)) := (Below.refl _ w).alloc (Nat.le_refl _) _
  have c3 : (w.alloc (.cells #[.int .i64 3, .int .i64 u, .int .i64 f, .int .i64 t] 157)).cell? ⟨b, 3, none⟩ = some (.int .i64 T.many) := hb0.cell rfl
  go_enter Tryz.func91, Tryz.ntmps91
  have y0 : (w.alloc (.cells #[.int .i64 3, .int .i64 u, .int .i64 f, .int .i64 t] 157)).cell? ⟨w.heap.size, 0, none⟩ = some (.int .i64 3) := hx0.cell rfl
  have y3 : (w.alloc (.cells #[.int .i64 3, .int .i64 u, .int .i64 f, .int .i64 t] 157)).cell? ⟨w.heap.size, 3, none⟩ = some (.int .i64 t) := hx0.cell rfl
  have fy3 := hx0.free 3
  clear hb
  go_wp2_with fail
  have hx1 := hx0
  have hbw1 := hbw0
  generalize (w.alloc (.cells #[.int .i64 3, .int .i64 u, .int .i64 f, .int .i64 t] 157)) = w1 at *
  clear c3 y0 y3 fy3 d100 dk hx0 hb0 hbw0
  replace hx1 := hx1.drewN 1
  replace hbw1 := belowD hbw1 1
  have z0 := hx1
  obtain ⟨p1, hp1, hbb1⟩ := (h.below hbw1).boxes
  have z0 : (w1.drewN 1).cell? ⟨b, 0, none⟩ = some (.pointer (some ⟨m, 0, none⟩)) := hbb1.cell rfl
  have y0 : (w1.drewN 1).cell? ⟨w.heap.size, 0, none⟩ = some (.int .i64 3) := hx1.cell rfl
  have y1 : (w1.drewN 1).cell? ⟨w.heap.size, 1, none⟩ = some (.int .i64 u) := hx1.cell rfl
  have y2 : (w1.drewN 1).cell? ⟨w.heap.size, 2, none⟩ = some (.int .i64 f) := hx1.cell rfl
  have y3 : (w1.drewN 1).cell? ⟨w.heap.size, 3, none⟩ = some (.int .i64 t) := hx1.cell rfl
  refine wp_still_tailD 5 (by kernel_rfl) (by kernel_rfl) ?_
  simp only [List.take_succ_cons, List.take_zero, List.drop_succ_cons, List.drop_zero]
  repeat still_step
  refine wpStill_nil ?_
  generalize w1.drewN 1 = w2 at *
  have h1 := h.below hbw1
  have hb1 : Below W0.heap.size W0 w2 := hbW.trans (hbw1.mono hbW.size)
  have HA := Lib.hid (LAsk_any2 (ok := fun g => ¬ A.has U F g) h1.bell (hG.tab.next hb1) hI.inv hU hF (Nat.zero_le _) (fun h1' h2' g hg => fun hno => hno (h1.bell.has_of h1' h2' hg)) 3 u f t)
  obtain ⟨r, hr⟩ : ∃ r, lAsk U F T.S 3 u f t = r := ⟨_, rfl⟩
  rw [hr] at HA
  have Hr := Lib.hid hr
  have Hrd := Lib.hid (lAsk_code U F T.S 3 u f t)
  rw [hr] at Hrd
  have H0 := Lib.hid (show tAsk U F T 3 u f t = if r.2 = 1 then (T, 1) else (T.push r.1 (3 : Int).toNat u.toNat f.toNat (t : Int).toNat r.2, r.2) by unfold tAsk; rw [if_neg hm, hr, show toOf 3 t = t from if_pos rfl])
  have Hran := Lib.hid (show r.2 ≠ 1 → TRan T.S 3 u f t from fun hh => TRan.of (by rw [hr]; exact hh))
  have hsz1 := hbw1.size
  have hxlt := hx1.lt
  clear hr z0 hbb1
  obtain ⟨S', code⟩ := r
  go_wp2_with (go_at_call 119; with_reducible refine HA.out.mono ?_; rintro e w3 ⟨rfl, hB3, hb3, hkt3, hsp3⟩)
  have hq3 : QKeeps (A.has U F) w2 w3 := ⟨hb3.os, hb3.tape, hb3.output, hb3.size, fun g hg hn => hsp3 g hn hg⟩
  clear HA y0 y1 y2 y3 hb3 hsp3 hp1
  have hxn : ¬ A.has U F w.heap.size := fun hh => by have := h.lt _ (h.oa _ hh); omega
  have hx3 : BoxN w3 w.heap.size 157 #[.int .i64 3, .int .i64 u, .int .i64 f, .int .i64 t] := (hq3.block _ hx1.lt hxn).trans hx1
  have hT3 := Lib.hid (h1.trl.keep (hq3.block b (h1.lt b h1.ob) h1.nb) fun g hg => hq3.block g (h1.lt g (h1.ov g hg)) (h1.nv g hg))
  have hb3 : Below W0.heap.size W0 w3 := hq3.to_below (fun g hg => h1.low g (h1.oa g hg)) hb1 hb1.size
  have hqw3 : QKeeps own w w3 := (QKeeps.of_below hbw1).trans hq3 fun g hg => .inl (h1.oa g hg)
  have CIs := Lib.hid (Is_any code w3)
  clear hkt3 h1 hx1 hbw1 z0 hxn
  by_cases hc1 : code = 1
  · subst hc1
    have hS : S' = T.S := by
      have q := Hr.out
      have q2 : (lAsk U F T.S 3 u f t).2 = 1 := by rw [q]
      have q3 := lAsk_one.1 q2
      unfold lAsk at q
      rw [if_neg q3] at q
      injection q with q1 q2
      exact q1.symm
    have H1 := Lib.hid (show tAsk U F T 3 u f t = (T, 1) from by rw [H0.out, if_pos rfl])
    rw [show decide ((1 : Nat) = 1) = true from rfl] at CIs
    clear H0 Hrd Hran
    with_reducible refine CIs.out.mono ?_
    rintro e w4 ⟨rfl, rfl⟩
    go_wp2_with fail
    go_ret
    show AskPost _ _ _ _ _ _ _ _ _ _ _ _
    rw [H1.out]
    subst hS
    exact ⟨rfl, own, v, ⟨hT3.out, hB3, h.ob, h.om, h.ov, h.oa, h.nb, h.nv, fun g hg => Nat.lt_of_lt_of_le (h.lt g hg) hqw3.size, h.low⟩, fun g hg => .inl hg, hqw3⟩
  · have H1 := Lib.hid (show tAsk U F T 3 u f t = (T.push S' (3 : Int).toNat u.toNat f.toNat (t : Int).toNat code, code) from by rw [H0.out, if_neg hc1])
    rw [show decide (code = 1) = false from decide_eq_false hc1] at CIs
    obtain ⟨⟨k0, k3⟩, ⟨u0, u8⟩, ⟨f0, f8⟩, ⟨t0, t8⟩⟩ := Hran.out hc1
    have l8 := hI.inv.lm
    have n8 := hI.inv.ln
    have hcode : code < 10 := by have := Hrd.out; omega
    obtain ⟨un, rfl⟩ := Int.eq_ofNat_of_zero_le u0
    obtain ⟨fn, rfl⟩ := Int.eq_ofNat_of_zero_le f0
    rw [show toOf 3 t = t from if_pos rfl] at t0 t8
    obtain ⟨tn, rfl⟩ := Int.eq_ofNat_of_zero_le t0
    simp only [Int.toNat_natCast] at H1
    clear H0 Hrd Hran
    with_reducible refine CIs.out.mono ?_
    rintro e w4 ⟨rfl, rfl⟩
    have y0 := cell_regrown (show w3.cell? ⟨w.heap.size, 0, none⟩ = some (.int .i64 3) from hx3.cell rfl)
    have y1 := cell_regrown (show w3.cell? ⟨w.heap.size, 1, none⟩ = some (.int .i64 un) from hx3.cell rfl)
    have y2 := cell_regrown (show w3.cell? ⟨w.heap.size, 2, none⟩ = some (.int .i64 fn) from hx3.cell rfl)
    have y3 := cell_regrown (show w3.cell? ⟨w.heap.size, 3, none⟩ = some (.int .i64 tn) from hx3.cell rfl)
    have Q1 := Lib.hid (fun (d : Nat) (os : Array Obj) => Calls.regrown_of (trTold_any code (Sort.grow (redrawn w3 d) os) (hG.err.next (hb3.trans ((below_regrown w3 d os).mono hb3.size)))))
    go_wp2_with fail
    refine wp_region_quiet_below (by kernel_rfl) (by kernel_rfl) ?_
    repeat (go_big_quiet_step (with_reducible exact Q1.out _ _))
    refine wpQuiet_nil ?_
    rintro _ ⟨pq, rfl⟩
    have hbq := below_regrown w3 pq.d pq.os
    generalize Sort.grow (redrawn w3 pq.d) pq.os = w4 at *
    clear y0 y1 y2 y3 Q1 CIs
    have hb4 : Below W0.heap.size W0 w4 := hb3.trans (hbq.mono hb3.size)
    have CI := Lib.hid (fun (n : Nat) (hn : n < 10) (V : World) (hV : Below W0.heap.size W0 V) => (hG.itoa hV n (by omega)).mono fun e w' ⟨he, hb⟩ => (⟨by rw [itoa_one hn] at he; exact he, hb⟩ : e = Ending.returned (Value.string ⟨#[UInt8.ofNat (48 + n)]⟩) ∧ Below V.heap.size V w'))
    go_wp2_with fail
    have hx0 := index5_0 3 un fn tn code
    have hx1 := index5_1 3 un fn tn code
    have hx2 := index5_2 3 un fn tn code
    have hx3i := index5_3 3 un fn tn code
    have hx4 := index5_4 3 un fn tn code
    obtain ⟨dk, hdk⟩ : ∃ x, UInt8.ofNat (48 + 3) = x := ⟨_, rfl⟩
    obtain ⟨du, hdu⟩ : ∃ x, UInt8.ofNat (48 + un) = x := ⟨_, rfl⟩
    obtain ⟨df, hdf⟩ : ∃ x, UInt8.ofNat (48 + fn) = x := ⟨_, rfl⟩
    obtain ⟨dt, hdt⟩ : ∃ x, UInt8.ofNat (48 + tn) = x := ⟨_, rfl⟩
    obtain ⟨dc, hdc⟩ : ∃ x, UInt8.ofNat (48 + code) = x := ⟨_, rfl⟩
    have C0 := Lib.hid (fun (V : World) (hV : Below W0.heap.size W0 V) => show Calls Tryz.prog 52 #[.int .i64 3] V (fun e w' => e = Ending.returned (Value.string ⟨#[UInt8.ofNat (48 + 3)]⟩) ∧ Below V.heap.size V w') from CI.out 3 (by omega) V hV)
    have C1 := Lib.hid (CI.out un (by omega))
    have C2 := Lib.hid (CI.out fn (by omega))
    have C3 := Lib.hid (fun (V : World) (hV : Below W0.heap.size W0 V) => show Calls Tryz.prog 52 #[.int .i64 tn] V (fun e w' => e = Ending.returned (Value.string ⟨#[UInt8.ofNat (48 + tn)]⟩) ∧ Below V.heap.size V w') from CI.out tn (by omega) V hV)
    have C4 := Lib.hid (CI.out code hcode)
    rw [hdk] at C0
    rw [hdu] at C1
    rw [hdf] at C2
    rw [hdt] at C3
    rw [hdc] at C4
    have Hsay := Lib.hid (show sayT 3 un fn tn code = [dk, 32, du, 32, df, 32, dt, 32, dc, 32] by rw [sayT_ten (by omega) (by omega) (by omega) (by omega) hcode, hdk, hdu, hdf, hdt, hdc])
    clear hdk hdu hdf hdt hdc CI
    refine wp_loop_rounds 6 ?_
    rw [rounds_succ]
    go_wp2_with fail
    with_reducible refine (C0.out _ hb4).mono ?_
    rintro e w5 ⟨rfl, hv⟩
    have hb5 := hb4.trans (hv.mono hb4.size)
    have hq5 := hv
    clear hv C0
    go_wp2_with fail
    rw [rounds_succ]
    go_wp2_with fail
    with_reducible refine (C1.out _ hb5).mono ?_
    rintro e w6 ⟨rfl, hv⟩
    have hb6 := hb5.trans (hv.mono hb5.size)
    have hq6 := hv
    clear hv C1
    go_wp2_with fail
    rw [rounds_succ]
    go_wp2_with fail
    with_reducible refine (C2.out _ hb6).mono ?_
    rintro e w7 ⟨rfl, hv⟩
    have hb7 := hb6.trans (hv.mono hb6.size)
    have hq7 := hv
    clear hv C2
    go_wp2_with fail
    rw [rounds_succ]
    go_wp2_with fail
    with_reducible refine (C3.out _ hb7).mono ?_
    rintro e w8 ⟨rfl, hv⟩
    have hb8 := hb7.trans (hv.mono hb7.size)
    have hq8 := hv
    clear hv C3
    go_wp2_with fail
    rw [rounds_succ]
    go_wp2_with fail
    with_reducible refine (C4.out _ hb8).mono ?_
    rintro e w9 ⟨rfl, hv⟩
    have hb9 := hb8.trans (hv.mono hb8.size)
    have hq9 := hv
    clear hv C4
    go_wp2_with fail
    obtain ⟨line, hline⟩ : ∃ line : ByteArray, ((((⟨#[]⟩ ++ (⟨#[dk]⟩ ++ ⟨#[32]⟩)) ++ (⟨#[du]⟩ ++ ⟨#[32]⟩)) ++ (⟨#[df]⟩ ++ ⟨#[32]⟩)) ++ (⟨#[dt]⟩ ++ ⟨#[32]⟩)) ++ (⟨#[dc]⟩ ++ ⟨#[32]⟩) = line := ⟨_, rfl⟩
    rw [hline]
    have Hline := Lib.hid (show line.data.toList = sayT 3 un fn tn code by rw [← hline, Hsay.out]; simp)
    have Hsz := Lib.hid (show line.size = 10 by rw [← hline]; simp only [ByteArray.size_append]; rfl)
    have hlz := Hsz.out
    have Hw39 := Lib.hid (hbq.trans ((hq5.trans ((hq6.trans ((hq7.trans ((hq8.trans (hq9.mono hq8.size)).mono hq7.size)).mono hq6.size)).mono hq5.size)).mono hbq.size))
    have hT9 := Lib.hid (hT3.out.below Hw39.out)
    obtain ⟨-, -, c4, -, -⟩ := hT9.out.cells
    have CN := Lib.hid (fun V => next_any (c := T.chain) (s := line) hI.chain (by omega) V)
    rw [Hline.out] at CN
    have hlk := linkV_lt T.chain (sayT 3 un fn tn code)
    have hlen4 := link_len hlk
    have Hlk := Lib.hid (show linkV T.chain (sayT 3 un fn tn code) = linkV T.chain (sayT 3 un fn tn code) from rfl)
    obtain ⟨lk, hlke⟩ : ∃ lk, linkV T.chain (sayT 3 un fn tn code) = lk := ⟨_, rfl⟩
    rw [hlke] at CN hlk hlen4
    have Hlke := Lib.hid hlke
    clear hline hlz hq5 hq6 hq7 hq8 hq9 hbq hlke Hlk hx0 hx1 hx2 hx3i hx4 hb4 hb5 hb6 hb7 hb8
    rw [rounds_succ]
    go_wp2_with fail
    with_reducible refine (CN.out _).mono ?_
    rintro e w10 ⟨rfl, hv⟩
    have hb10 := hb9.trans (hv.mono hb9.size)
    have Hw10 := Lib.hid (Hw39.out.trans (hv.mono Hw39.out.size))
    have hT10 := Lib.hid (hT3.out.below Hw10.out)
    obtain ⟨-, -, c4', -, f4⟩ := hT10.out.cells
    clear hv CN c4 hT9 Hw39
    go_wp2_with fail
    have hT11 := Lib.hid (hT10.out.setC (.int .i64 (lk : Nat)))
    have hq11 := (QKeeps.of_below Hw10.out (S := fun g => g = b ∨ v.ownBlock = some g)).setCell (p := ⟨b, 4, none⟩) (.inl rfl) (.int .i64 (lk : Nat))
    have hlob := h.low b h.ob
    have hb11 := hb10.setCell (p := ⟨b, 4, none⟩) hlob (.int .i64 (lk : Nat))
    generalize w10.setCell ⟨b, 4, none⟩ (.int .i64 (lk : Nat)) = w11 at *
    obtain ⟨-, c3, c4, -, -⟩ := hT11.out.cells
    clear c4' f4 hT10 hb10 hb9 Hw10
    have CL := Lib.hid (fun (V : World) (hV : Below W0.heap.size W0 V) => hG.itoa hV lk (by omega))
    obtain ⟨tl, htl⟩ : ∃ tl, Lib.itoa (lk : Int) = tl := ⟨_, rfl⟩
    rw [htl] at CL hlen4
    have Htl := Lib.hid htl
    have hloglen := hI.log
    have hmany := hI.many
    have hsum : (Lib.byteCells T.log).length + ((line ++ ⟨tl.toArray⟩) ++ ⟨#[10]⟩ : ByteArray).size ≤ 140737488355328 := by
      have e1 : (⟨tl.toArray⟩ : ByteArray).size = tl.length := by simp [ByteArray.size]
      have e2 : (⟨#[10]⟩ : ByteArray).size = 1 := rfl
      rw [Lib.byteCells_length, ByteArray.size_append, ByteArray.size_append, Hsz.out, e1, e2]
      omega
    have n1 : ¬ 9223372036854775807 < line.size + tl.length := by have := Hsz.out; omega
    have n2 : ¬ 9223372036854775807 < line.size + tl.length + 1 := by have := Hsz.out; omega
    clear htl hloglen hlk hlen4
    have hbA : Below w11.heap.size w11 w11.drew := (Below.refl _ _).drew
    have hKeep := Lib.hid (fun V (hV : Below w11.heap.size w11 V) => (hV.cell (p := ⟨b, 4, none⟩) hT11.out.lt).trans c4)
    obtain ⟨str, hstr⟩ : ∃ str : ByteArray, (line ++ ⟨tl.toArray⟩) ++ ⟨#[10]⟩ = str := ⟨_, rfl⟩
    rw [hstr] at hsum
    have Hstr := Lib.hid hstr
    have CW := Lib.hid (fun (V : World) (hV : Below w11.heap.size w11 V) => TrlString_any str (hT11.out.below hV) hsum)
    rw [← hstr] at CW
    clear hstr
    have hb11' := Lib.hid (fun V (hV : Below w11.heap.size w11 V) => (hb11.trans (hV.mono hb11.size)))
    go_wp2_with fail
    go_region_held3 (fun V => V.cell? ⟨b, 4, none⟩ = some (.int .i64 (lk : Nat))) ((first | with_reducible assumption | (refine hKeep.out _ ?_; repeat (first | with_reducible assumption | refine Below.drew ?_)))) ((first | (go_at_call 52; with_reducible refine (CL.out _ (hb11'.out _ (by repeat (first | assumption | refine Below.drew ?_)))).mono ?_; rintro e w12 ⟨rfl, hv12⟩; have hw12 : Below w11.heap.size w11 w12 := hbA.trans (hv12.mono hbA.size)) | (go_at_call 43; with_reducible refine (CW.out _ (by repeat (first | assumption | refine Below.drew ?_))).mono ?_; rintro e w13 ⟨rfl, v', hT13, hgo, hq13⟩; have hc13 : w13.cell? ⟨b, 4, none⟩ = some (.int .i64 (lk : Nat)) := hT13.cells.2.2.1)))
    have Hlog := Lib.hid (show Lib.byteCells T.log ++ Lib.strCells ((line ++ ⟨tl.toArray⟩) ++ ⟨#[10]⟩) = Lib.byteCells (T.log ++ (sayT 3 un fn tn code ++ tl ++ [10])) by
      have e1 : ((line ++ ⟨tl.toArray⟩) ++ ⟨#[10]⟩ : ByteArray).data.toList = line.data.toList ++ tl ++ [10] := by simp
      show Lib.byteCells T.log ++ Lib.byteCells (((line ++ ⟨tl.toArray⟩) ++ ⟨#[10]⟩ : ByteArray).data.toList) = _
      rw [e1, Hline.out]
      simp [Lib.byteCells])
    rw [Hlog.out] at hT13
    clear CW CL hb11' hKeep Hstr Hlog
    have hT14 := Lib.hid (hT13.setK (.int .i64 ((T.many : Int) + 1)))
    obtain ⟨-, d3, -, f3, -⟩ := hT13.cells
    have hq3e := hq11.trans (QKeeps.of_below (S := fun _ => False) hw12) (fun _ h => h.elim)
    have hqA := Lib.hid ((hq3e.trans hq13 fun g hg => .inl hg).setCell (p := ⟨b, 3, none⟩) (.inl rfl) (.int .i64 ((T.many : Int) + 1)))
    have hs1 : IntKind.i64.wrap ((T.many : Int) + 1) = (T.many : Int) + 1 := (IntKind.wrap_i64 _).trans (by omega)
    go_wp2_with fail
    go_ret
    show AskPost _ _ _ _ _ _ _ _ _ _ _ _
    rw [H1.out]
    refine TrailAt.said h hbW.size hqw3 (Nat.le_refl _) hB3 ?_ hgo (Nat.le_trans hq11.size hw12.size) hqA.out
    show Trl ⟨_, .int .i64 ((T.many : Int) + 1), .int .i64 ((linkV T.chain (sayT 3 un fn tn code) : Nat) : Int)⟩ b v' (Lib.byteCells (T.log ++ (sayT 3 un fn tn code ++ Lib.itoa ((linkV T.chain (sayT 3 un fn tn code) : Nat) : Int) ++ [10]))) _
    rw [Hlke.out, Htl.out]
    exact hT14.out
set_option maxHeartbeats 16000000 in
theorem TAsk_other (hG : Glob W0) (hbW : Below W0.heap.size W0 w) (h : TrailAt W0.heap.size own w b m v A U F T) (hI : TInv U F T) (hU : ∀ i, i < T.S.Re.length → labOk (gI U (i * 2)) (gI U (i * 2 + 1))) (hF : ∀ i, i < T.S.Ho.length → labOk (gI F (i * 2)) (gI F (i * 2 + 1)))
    (hm : T.many ≠ 100) (k u f t : Int) (hk3 : k ≠ 3) :
    Calls Tryz.prog 91 #[.pointer (some ⟨b, 0, none⟩), .agg #[.int .i64 k, .int .i64 u, .int .i64 f, .int .i64 t]] w (AskPost W0.heap.size own w b m A U F (tAsk U F T k u f t).1 (tAsk U F T k u f t).2) := by
  obtain ⟨p, hp, hb⟩ := h.boxes
  have d100 : ((T.many : Int) == 100) = false := by simp; omega
  have dk : (k != 3) = true := by simp [hk3]
  have hx0 : BoxN (w.alloc (.cells #[.int .i64 k, .int .i64 u, .int .i64 f, .int .i64 t] 157)) w.heap.size 157 #[.int .i64 k, .int .i64 u, .int .i64 f, .int .i64 t] := BoxN.new w _ _
  have hb0 := hb.alloc (.cells #[.int .i64 k, .int .i64 u, .int .i64 f, .int .i64 t] 157)
  have hbw0 : Below w.heap.size w (w.alloc (.cells #[.int .i64 k, .int .i64 u, .int .i64 f, .int .i64 t] 157)) := (Below.refl _ w).alloc (Nat.le_refl _) _
  have c3 : (w.alloc (.cells #[.int .i64 k, .int .i64 u, .int .i64 f, .int .i64 t] 157)).cell? ⟨b, 3, none⟩ = some (.int .i64 T.many) := hb0.cell rfl
  go_enter Tryz.func91, Tryz.ntmps91
  have y0 : (w.alloc (.cells #[.int .i64 k, .int .i64 u, .int .i64 f, .int .i64 t] 157)).cell? ⟨w.heap.size, 0, none⟩ = some (.int .i64 k) := hx0.cell rfl
  have y3 : (w.alloc (.cells #[.int .i64 k, .int .i64 u, .int .i64 f, .int .i64 t] 157)).cell? ⟨w.heap.size, 3, none⟩ = some (.int .i64 t) := hx0.cell rfl
  have fy3 := hx0.free 3
  clear hb
  go_wp2_with fail
  have hx1 : BoxN (w.alloc (.cells #[.int .i64 k, .int .i64 u, .int .i64 f, .int .i64 0] 157)) w.heap.size 157 #[.int .i64 k, .int .i64 u, .int .i64 f, .int .i64 0] := BoxN.new w _ _
  have hbw1 : Below w.heap.size w (w.alloc (.cells #[.int .i64 k, .int .i64 u, .int .i64 f, .int .i64 0] 157)) := (Below.refl _ w).alloc (Nat.le_refl _) _
  generalize (w.alloc (.cells #[.int .i64 k, .int .i64 u, .int .i64 f, .int .i64 0] 157)) = w1 at *
  clear c3 y0 y3 fy3 d100 dk hx0 hb0 hbw0
  replace hx1 := hx1.drewN 1
  replace hbw1 := belowD hbw1 1
  have z0 := hx1
  obtain ⟨p1, hp1, hbb1⟩ := (h.below hbw1).boxes
  have z0 : (w1.drewN 1).cell? ⟨b, 0, none⟩ = some (.pointer (some ⟨m, 0, none⟩)) := hbb1.cell rfl
  have y0 : (w1.drewN 1).cell? ⟨w.heap.size, 0, none⟩ = some (.int .i64 k) := hx1.cell rfl
  have y1 : (w1.drewN 1).cell? ⟨w.heap.size, 1, none⟩ = some (.int .i64 u) := hx1.cell rfl
  have y2 : (w1.drewN 1).cell? ⟨w.heap.size, 2, none⟩ = some (.int .i64 f) := hx1.cell rfl
  have y3 : (w1.drewN 1).cell? ⟨w.heap.size, 3, none⟩ = some (.int .i64 0) := hx1.cell rfl
  refine wp_still_tailD 5 (by kernel_rfl) (by kernel_rfl) ?_
  simp only [List.take_succ_cons, List.take_zero, List.drop_succ_cons, List.drop_zero]
  repeat still_step
  refine wpStill_nil ?_
  generalize w1.drewN 1 = w2 at *
  have h1 := h.below hbw1
  have hb1 : Below W0.heap.size W0 w2 := hbW.trans (hbw1.mono hbW.size)
  have HA := Lib.hid (LAsk_any2 (ok := fun g => ¬ A.has U F g) h1.bell (hG.tab.next hb1) hI.inv hU hF (Nat.zero_le _) (fun h1' h2' g hg => fun hno => hno (h1.bell.has_of h1' h2' hg)) k u f 0)
  rw [show lAsk U F T.S k u f 0 = lAsk U F T.S k u f t from (by have q := lAsk_to U F T.S k u f t; rwa [show toOf k t = 0 from if_neg hk3] at q)] at HA
  obtain ⟨r, hr⟩ : ∃ r, lAsk U F T.S k u f t = r := ⟨_, rfl⟩
  rw [hr] at HA
  have Hr := Lib.hid hr
  have Hrd := Lib.hid (lAsk_code U F T.S k u f t)
  rw [hr] at Hrd
  have H0 := Lib.hid (show tAsk U F T k u f t = if r.2 = 1 then (T, 1) else (T.push r.1 (k : Int).toNat u.toNat f.toNat (0 : Int).toNat r.2, r.2) by unfold tAsk; rw [if_neg hm, hr, show toOf k t = 0 from if_neg hk3])
  have Hran := Lib.hid (show r.2 ≠ 1 → TRan T.S k u f t from fun hh => TRan.of (by rw [hr]; exact hh))
  have hsz1 := hbw1.size
  have hxlt := hx1.lt
  clear hr z0 hbb1
  obtain ⟨S', code⟩ := r
  go_wp2_with (go_at_call 119; with_reducible refine HA.out.mono ?_; rintro e w3 ⟨rfl, hB3, hb3, hkt3, hsp3⟩)
  have hq3 : QKeeps (A.has U F) w2 w3 := ⟨hb3.os, hb3.tape, hb3.output, hb3.size, fun g hg hn => hsp3 g hn hg⟩
  clear HA y0 y1 y2 y3 hb3 hsp3 hp1
  have hxn : ¬ A.has U F w.heap.size := fun hh => by have := h.lt _ (h.oa _ hh); omega
  have hx3 : BoxN w3 w.heap.size 157 #[.int .i64 k, .int .i64 u, .int .i64 f, .int .i64 0] := (hq3.block _ hx1.lt hxn).trans hx1
  have hT3 := Lib.hid (h1.trl.keep (hq3.block b (h1.lt b h1.ob) h1.nb) fun g hg => hq3.block g (h1.lt g (h1.ov g hg)) (h1.nv g hg))
  have hb3 : Below W0.heap.size W0 w3 := hq3.to_below (fun g hg => h1.low g (h1.oa g hg)) hb1 hb1.size
  have hqw3 : QKeeps own w w3 := (QKeeps.of_below hbw1).trans hq3 fun g hg => .inl (h1.oa g hg)
  have CIs := Lib.hid (Is_any code w3)
  clear hkt3 h1 hx1 hbw1 z0 hxn
  by_cases hc1 : code = 1
  · subst hc1
    have hS : S' = T.S := by
      have q := Hr.out
      have q2 : (lAsk U F T.S k u f t).2 = 1 := by rw [q]
      have q3 := lAsk_one.1 q2
      unfold lAsk at q
      rw [if_neg q3] at q
      injection q with q1 q2
      exact q1.symm
    have H1 := Lib.hid (show tAsk U F T k u f t = (T, 1) from by rw [H0.out, if_pos rfl])
    rw [show decide ((1 : Nat) = 1) = true from rfl] at CIs
    clear H0 Hrd Hran
    with_reducible refine CIs.out.mono ?_
    rintro e w4 ⟨rfl, rfl⟩
    go_wp2_with fail
    go_ret
    show AskPost _ _ _ _ _ _ _ _ _ _ _ _
    rw [H1.out]
    subst hS
    exact ⟨rfl, own, v, ⟨hT3.out, hB3, h.ob, h.om, h.ov, h.oa, h.nb, h.nv, fun g hg => Nat.lt_of_lt_of_le (h.lt g hg) hqw3.size, h.low⟩, fun g hg => .inl hg, hqw3⟩
  · have H1 := Lib.hid (show tAsk U F T k u f t = (T.push S' (k : Int).toNat u.toNat f.toNat (0 : Int).toNat code, code) from by rw [H0.out, if_neg hc1])
    rw [show decide (code = 1) = false from decide_eq_false hc1] at CIs
    obtain ⟨⟨k0, k3⟩, ⟨u0, u8⟩, ⟨f0, f8⟩, ⟨t0, t8⟩⟩ := Hran.out hc1
    have l8 := hI.inv.lm
    have n8 := hI.inv.ln
    have hcode : code < 10 := by have := Hrd.out; omega
    obtain ⟨un, rfl⟩ := Int.eq_ofNat_of_zero_le u0
    obtain ⟨fn, rfl⟩ := Int.eq_ofNat_of_zero_le f0
    obtain ⟨kn, rfl⟩ := Int.eq_ofNat_of_zero_le k0
    simp only [Int.toNat_natCast] at H1
    clear H0 Hrd Hran
    with_reducible refine CIs.out.mono ?_
    rintro e w4 ⟨rfl, rfl⟩
    have y0 := cell_regrown (show w3.cell? ⟨w.heap.size, 0, none⟩ = some (.int .i64 kn) from hx3.cell rfl)
    have y1 := cell_regrown (show w3.cell? ⟨w.heap.size, 1, none⟩ = some (.int .i64 un) from hx3.cell rfl)
    have y2 := cell_regrown (show w3.cell? ⟨w.heap.size, 2, none⟩ = some (.int .i64 fn) from hx3.cell rfl)
    have y3 := cell_regrown (show w3.cell? ⟨w.heap.size, 3, none⟩ = some (.int .i64 0) from hx3.cell rfl)
    have Q1 := Lib.hid (fun (d : Nat) (os : Array Obj) => Calls.regrown_of (trTold_any code (Sort.grow (redrawn w3 d) os) (hG.err.next (hb3.trans ((below_regrown w3 d os).mono hb3.size)))))
    go_wp2_with fail
    refine wp_region_quiet_below (by kernel_rfl) (by kernel_rfl) ?_
    repeat (go_big_quiet_step (with_reducible exact Q1.out _ _))
    refine wpQuiet_nil ?_
    rintro _ ⟨pq, rfl⟩
    have hbq := below_regrown w3 pq.d pq.os
    generalize Sort.grow (redrawn w3 pq.d) pq.os = w4 at *
    clear y0 y1 y2 y3 Q1 CIs
    have hb4 : Below W0.heap.size W0 w4 := hb3.trans (hbq.mono hb3.size)
    have CI := Lib.hid (fun (n : Nat) (hn : n < 10) (V : World) (hV : Below W0.heap.size W0 V) => (hG.itoa hV n (by omega)).mono fun e w' ⟨he, hb⟩ => (⟨by rw [itoa_one hn] at he; exact he, hb⟩ : e = Ending.returned (Value.string ⟨#[UInt8.ofNat (48 + n)]⟩) ∧ Below V.heap.size V w'))
    go_wp2_with fail
    have hx0 := index5_0 kn un fn 0 code
    have hx1 := index5_1 kn un fn 0 code
    have hx2 := index5_2 kn un fn 0 code
    have hx3i := index5_3 kn un fn 0 code
    have hx4 := index5_4 kn un fn 0 code
    obtain ⟨dk, hdk⟩ : ∃ x, UInt8.ofNat (48 + kn) = x := ⟨_, rfl⟩
    obtain ⟨du, hdu⟩ : ∃ x, UInt8.ofNat (48 + un) = x := ⟨_, rfl⟩
    obtain ⟨df, hdf⟩ : ∃ x, UInt8.ofNat (48 + fn) = x := ⟨_, rfl⟩
    obtain ⟨dt, hdt⟩ : ∃ x, UInt8.ofNat (48 + 0) = x := ⟨_, rfl⟩
    obtain ⟨dc, hdc⟩ : ∃ x, UInt8.ofNat (48 + code) = x := ⟨_, rfl⟩
    have C0 := Lib.hid (fun (V : World) (hV : Below W0.heap.size W0 V) => show Calls Tryz.prog 52 #[.int .i64 kn] V (fun e w' => e = Ending.returned (Value.string ⟨#[UInt8.ofNat (48 + kn)]⟩) ∧ Below V.heap.size V w') from CI.out kn (by omega) V hV)
    have C1 := Lib.hid (CI.out un (by omega))
    have C2 := Lib.hid (CI.out fn (by omega))
    have C3 := Lib.hid (fun (V : World) (hV : Below W0.heap.size W0 V) => show Calls Tryz.prog 52 #[.int .i64 0] V (fun e w' => e = Ending.returned (Value.string ⟨#[UInt8.ofNat (48 + 0)]⟩) ∧ Below V.heap.size V w') from CI.out 0 (by omega) V hV)
    have C4 := Lib.hid (CI.out code hcode)
    rw [hdk] at C0
    rw [hdu] at C1
    rw [hdf] at C2
    rw [hdt] at C3
    rw [hdc] at C4
    have Hsay := Lib.hid (show sayT kn un fn 0 code = [dk, 32, du, 32, df, 32, dt, 32, dc, 32] by rw [sayT_ten (by omega) (by omega) (by omega) (by omega) hcode, hdk, hdu, hdf, hdt, hdc])
    clear hdk hdu hdf hdt hdc CI
    refine wp_loop_rounds 6 ?_
    rw [rounds_succ]
    go_wp2_with fail
    with_reducible refine (C0.out _ hb4).mono ?_
    rintro e w5 ⟨rfl, hv⟩
    have hb5 := hb4.trans (hv.mono hb4.size)
    have hq5 := hv
    clear hv C0
    go_wp2_with fail
    rw [rounds_succ]
    go_wp2_with fail
    with_reducible refine (C1.out _ hb5).mono ?_
    rintro e w6 ⟨rfl, hv⟩
    have hb6 := hb5.trans (hv.mono hb5.size)
    have hq6 := hv
    clear hv C1
    go_wp2_with fail
    rw [rounds_succ]
    go_wp2_with fail
    with_reducible refine (C2.out _ hb6).mono ?_
    rintro e w7 ⟨rfl, hv⟩
    have hb7 := hb6.trans (hv.mono hb6.size)
    have hq7 := hv
    clear hv C2
    go_wp2_with fail
    rw [rounds_succ]
    go_wp2_with fail
    with_reducible refine (C3.out _ hb7).mono ?_
    rintro e w8 ⟨rfl, hv⟩
    have hb8 := hb7.trans (hv.mono hb7.size)
    have hq8 := hv
    clear hv C3
    go_wp2_with fail
    rw [rounds_succ]
    go_wp2_with fail
    with_reducible refine (C4.out _ hb8).mono ?_
    rintro e w9 ⟨rfl, hv⟩
    have hb9 := hb8.trans (hv.mono hb8.size)
    have hq9 := hv
    clear hv C4
    go_wp2_with fail
    obtain ⟨line, hline⟩ : ∃ line : ByteArray, ((((⟨#[]⟩ ++ (⟨#[dk]⟩ ++ ⟨#[32]⟩)) ++ (⟨#[du]⟩ ++ ⟨#[32]⟩)) ++ (⟨#[df]⟩ ++ ⟨#[32]⟩)) ++ (⟨#[dt]⟩ ++ ⟨#[32]⟩)) ++ (⟨#[dc]⟩ ++ ⟨#[32]⟩) = line := ⟨_, rfl⟩
    rw [hline]
    have Hline := Lib.hid (show line.data.toList = sayT kn un fn 0 code by rw [← hline, Hsay.out]; simp)
    have Hsz := Lib.hid (show line.size = 10 by rw [← hline]; simp only [ByteArray.size_append]; rfl)
    have hlz := Hsz.out
    have Hw39 := Lib.hid (hbq.trans ((hq5.trans ((hq6.trans ((hq7.trans ((hq8.trans (hq9.mono hq8.size)).mono hq7.size)).mono hq6.size)).mono hq5.size)).mono hbq.size))
    have hT9 := Lib.hid (hT3.out.below Hw39.out)
    obtain ⟨-, -, c4, -, -⟩ := hT9.out.cells
    have CN := Lib.hid (fun V => next_any (c := T.chain) (s := line) hI.chain (by omega) V)
    rw [Hline.out] at CN
    have hlk := linkV_lt T.chain (sayT kn un fn 0 code)
    have hlen4 := link_len hlk
    have Hlk := Lib.hid (show linkV T.chain (sayT kn un fn 0 code) = linkV T.chain (sayT kn un fn 0 code) from rfl)
    obtain ⟨lk, hlke⟩ : ∃ lk, linkV T.chain (sayT kn un fn 0 code) = lk := ⟨_, rfl⟩
    rw [hlke] at CN hlk hlen4
    have Hlke := Lib.hid hlke
    clear hline hlz hq5 hq6 hq7 hq8 hq9 hbq hlke Hlk hx0 hx1 hx2 hx3i hx4 hb4 hb5 hb6 hb7 hb8
    rw [rounds_succ]
    go_wp2_with fail
    with_reducible refine (CN.out _).mono ?_
    rintro e w10 ⟨rfl, hv⟩
    have hb10 := hb9.trans (hv.mono hb9.size)
    have Hw10 := Lib.hid (Hw39.out.trans (hv.mono Hw39.out.size))
    have hT10 := Lib.hid (hT3.out.below Hw10.out)
    obtain ⟨-, -, c4', -, f4⟩ := hT10.out.cells
    clear hv CN c4 hT9 Hw39
    go_wp2_with fail
    have hT11 := Lib.hid (hT10.out.setC (.int .i64 (lk : Nat)))
    have hq11 := (QKeeps.of_below Hw10.out (S := fun g => g = b ∨ v.ownBlock = some g)).setCell (p := ⟨b, 4, none⟩) (.inl rfl) (.int .i64 (lk : Nat))
    have hlob := h.low b h.ob
    have hb11 := hb10.setCell (p := ⟨b, 4, none⟩) hlob (.int .i64 (lk : Nat))
    generalize w10.setCell ⟨b, 4, none⟩ (.int .i64 (lk : Nat)) = w11 at *
    obtain ⟨-, c3, c4, -, -⟩ := hT11.out.cells
    clear c4' f4 hT10 hb10 hb9 Hw10
    have CL := Lib.hid (fun (V : World) (hV : Below W0.heap.size W0 V) => hG.itoa hV lk (by omega))
    obtain ⟨tl, htl⟩ : ∃ tl, Lib.itoa (lk : Int) = tl := ⟨_, rfl⟩
    rw [htl] at CL hlen4
    have Htl := Lib.hid htl
    have hloglen := hI.log
    have hmany := hI.many
    have hsum : (Lib.byteCells T.log).length + ((line ++ ⟨tl.toArray⟩) ++ ⟨#[10]⟩ : ByteArray).size ≤ 140737488355328 := by
      have e1 : (⟨tl.toArray⟩ : ByteArray).size = tl.length := by simp [ByteArray.size]
      have e2 : (⟨#[10]⟩ : ByteArray).size = 1 := rfl
      rw [Lib.byteCells_length, ByteArray.size_append, ByteArray.size_append, Hsz.out, e1, e2]
      omega
    have n1 : ¬ 9223372036854775807 < line.size + tl.length := by have := Hsz.out; omega
    have n2 : ¬ 9223372036854775807 < line.size + tl.length + 1 := by have := Hsz.out; omega
    clear htl hloglen hlk hlen4
    have hbA : Below w11.heap.size w11 w11.drew := (Below.refl _ _).drew
    have hKeep := Lib.hid (fun V (hV : Below w11.heap.size w11 V) => (hV.cell (p := ⟨b, 4, none⟩) hT11.out.lt).trans c4)
    obtain ⟨str, hstr⟩ : ∃ str : ByteArray, (line ++ ⟨tl.toArray⟩) ++ ⟨#[10]⟩ = str := ⟨_, rfl⟩
    rw [hstr] at hsum
    have Hstr := Lib.hid hstr
    have CW := Lib.hid (fun (V : World) (hV : Below w11.heap.size w11 V) => TrlString_any str (hT11.out.below hV) hsum)
    rw [← hstr] at CW
    clear hstr
    have hb11' := Lib.hid (fun V (hV : Below w11.heap.size w11 V) => (hb11.trans (hV.mono hb11.size)))
    go_wp2_with fail
    go_region_held3 (fun V => V.cell? ⟨b, 4, none⟩ = some (.int .i64 (lk : Nat))) ((first | with_reducible assumption | (refine hKeep.out _ ?_; repeat (first | with_reducible assumption | refine Below.drew ?_)))) ((first | (go_at_call 52; with_reducible refine (CL.out _ (hb11'.out _ (by repeat (first | assumption | refine Below.drew ?_)))).mono ?_; rintro e w12 ⟨rfl, hv12⟩; have hw12 : Below w11.heap.size w11 w12 := hbA.trans (hv12.mono hbA.size)) | (go_at_call 43; with_reducible refine (CW.out _ (by repeat (first | assumption | refine Below.drew ?_))).mono ?_; rintro e w13 ⟨rfl, v', hT13, hgo, hq13⟩; have hc13 : w13.cell? ⟨b, 4, none⟩ = some (.int .i64 (lk : Nat)) := hT13.cells.2.2.1)))
    have Hlog := Lib.hid (show Lib.byteCells T.log ++ Lib.strCells ((line ++ ⟨tl.toArray⟩) ++ ⟨#[10]⟩) = Lib.byteCells (T.log ++ (sayT kn un fn 0 code ++ tl ++ [10])) by
      have e1 : ((line ++ ⟨tl.toArray⟩) ++ ⟨#[10]⟩ : ByteArray).data.toList = line.data.toList ++ tl ++ [10] := by simp
      show Lib.byteCells T.log ++ Lib.byteCells (((line ++ ⟨tl.toArray⟩) ++ ⟨#[10]⟩ : ByteArray).data.toList) = _
      rw [e1, Hline.out]
      simp [Lib.byteCells])
    rw [Hlog.out] at hT13
    clear CW CL hb11' hKeep Hstr Hlog
    have hT14 := Lib.hid (hT13.setK (.int .i64 ((T.many : Int) + 1)))
    obtain ⟨-, d3, -, f3, -⟩ := hT13.cells
    have hq3e := hq11.trans (QKeeps.of_below (S := fun _ => False) hw12) (fun _ h => h.elim)
    have hqA := Lib.hid ((hq3e.trans hq13 fun g hg => .inl hg).setCell (p := ⟨b, 3, none⟩) (.inl rfl) (.int .i64 ((T.many : Int) + 1)))
    have hs1 : IntKind.i64.wrap ((T.many : Int) + 1) = (T.many : Int) + 1 := (IntKind.wrap_i64 _).trans (by omega)
    go_wp2_with fail
    go_ret
    show AskPost _ _ _ _ _ _ _ _ _ _ _ _
    rw [H1.out]
    refine TrailAt.said h hbW.size hqw3 (Nat.le_refl _) hB3 ?_ hgo (Nat.le_trans hq11.size hw12.size) hqA.out
    show Trl ⟨_, .int .i64 ((T.many : Int) + 1), .int .i64 ((linkV T.chain (sayT kn un fn 0 code) : Nat) : Int)⟩ b v' (Lib.byteCells (T.log ++ (sayT kn un fn 0 code ++ Lib.itoa ((linkV T.chain (sayT kn un fn 0 code) : Nat) : Int) ++ [10]))) _
    rw [Hlke.out, Htl.out]
    exact hT14.out
end
end Go.Proofs.YtanlmfnhlldkeaaGreatDoor

namespace Go.Proofs.YtanlmfnhlldkeaaGreatDoor
open Go.RowKit
set_option maxRecDepth 100000
set_option linter.unusedVariables false

section
variable {lo : Nat} {W0 w : World} {b m : Nat} {own : Nat → Prop} {v : Value} {A : LA} {U F : List Int} {T : TS}
/-- Ask, of whatever kind. -/
theorem TAsk_any (hG : Glob W0) (hbW : Below W0.heap.size W0 w) (h : TrailAt W0.heap.size own w b m v A U F T) (hI : TInv U F T) (hU : ∀ i, i < T.S.Re.length → labOk (gI U (i * 2)) (gI U (i * 2 + 1))) (hF : ∀ i, i < T.S.Ho.length → labOk (gI F (i * 2)) (gI F (i * 2 + 1)))
    (k u f t : Int) :
    Calls Tryz.prog 91 #[.pointer (some ⟨b, 0, none⟩), .agg #[.int .i64 k, .int .i64 u, .int .i64 f, .int .i64 t]] w (AskPost W0.heap.size own w b m A U F (tAsk U F T k u f t).1 (tAsk U F T k u f t).2) := by
  by_cases hm : T.many = 100
  · have e : tAsk U F T k u f t = (T, 4) := by unfold tAsk; rw [if_pos hm]
    rw [e]
    exact TAsk_full h hm k u f t
  · by_cases hk : k = 3
    · exact TAsk_copy hG hbW h hI hU hF hm k u f t hk
    · exact TAsk_other hG hbW h hI hU hF hm k u f t hk
theorem TrailAt.cm (h : TrailAt lo own w b m v A U F T) : w.cell? ⟨b, 0, none⟩ = some (.pointer (some ⟨m, 0, none⟩)) := h.trl.cells.1
theorem TrailAt.ck (h : TrailAt lo own w b m v A U F T) : w.cell? ⟨b, 3, none⟩ = some (.int .i64 T.many) := h.trl.cells.2.1
theorem TrailAt.cc (h : TrailAt lo own w b m v A U F T) : w.cell? ⟨b, 4, none⟩ = some (.int .i64 T.chain) := h.trl.cells.2.2.1
theorem TReads_any (h : TrailAt lo own w b m v A U F T) (hl : T.S.Re.length < 2 ^ 60) (u : Int) :
    Calls Tryz.prog 84 #[.pointer (some ⟨b, 0, none⟩), .int .i64 u] w fun e w' => e = .returned (.int .i64 (told T.S.Re u : Nat)) ∧ w = w' := by
  have c0 := h.cm
  have C := Lib.hid (LReads_any h.bell hl u)
  clear h
  go_enter Tryz.func84, Tryz.ntmps84
  go_wp2_with (go_at_call 114; with_reducible refine C.out.mono ?_; rintro e w' ⟨rfl, rfl⟩)
  go_ret
  exact ⟨rfl, rfl⟩
theorem TWrites_any (h : TrailAt lo own w b m v A U F T) (hl : T.S.Re.length < 2 ^ 60) (u : Int) :
    Calls Tryz.prog 86 #[.pointer (some ⟨b, 0, none⟩), .int .i64 u] w fun e w' => e = .returned (.int .i64 (told T.S.Wr u : Nat)) ∧ w = w' := by
  have c0 := h.cm
  have C := Lib.hid (LWrites_any h.bell hl u)
  clear h
  go_enter Tryz.func86, Tryz.ntmps86
  go_wp2_with (go_at_call 115; with_reducible refine C.out.mono ?_; rintro e w' ⟨rfl, rfl⟩)
  go_ret
  exact ⟨rfl, rfl⟩
theorem THolds_any (h : TrailAt lo own w b m v A U F T) (hl : T.S.Ho.length < 2 ^ 60) (f : Int) :
    Calls Tryz.prog 88 #[.pointer (some ⟨b, 0, none⟩), .int .i64 f] w fun e w' => e = .returned (.int .i64 (told T.S.Ho f : Nat)) ∧ w = w' := by
  have c0 := h.cm
  have C := Lib.hid (LHolds_any h.bell hl f)
  clear h
  go_enter Tryz.func88, Tryz.ntmps88
  go_wp2_with (go_at_call 116; with_reducible refine C.out.mono ?_; rintro e w' ⟨rfl, rfl⟩)
  go_ret
  exact ⟨rfl, rfl⟩
/-- The text of a trail. -/
theorem TText_any (h : TrailAt lo own w b m v A U F T) :
    Calls Tryz.prog 117 #[.pointer (some ⟨b, 0, none⟩)] w fun e w' => e = .returned (.string ⟨T.log.toArray⟩) ∧ TrailAt lo own w' b m v A U F T ∧ QKeeps own w w' := by
  have C := Lib.hid (TrlText_any h.trl)
  have hf := Lib.hid h
  clear h
  go_enter Tryz.func117, Tryz.ntmps117
  go_wp2_with (go_at_call 35; with_reducible refine C.out.mono ?_; rintro e w' ⟨rfl, hT, hq⟩)
  go_ret
  have h := hf.out
  exact ⟨rfl, ⟨hT, h.bell.keepB (hq.block m (h.lt m h.om) h.vm) fun k hk => hq.block k (h.lt k (h.oa k hk)) (fun e => h.nv k e hk), h.ob, h.om, h.ov, h.oa, h.nb, h.nv, fun k hh => Nat.lt_of_lt_of_le (h.lt k hh) hq.size, h.low⟩, ⟨hq.os, hq.tape, hq.output, hq.size, fun g hg hn => hq.block g hg fun e => hn (h.ov g e)⟩⟩
end
theorem BellAt.base0 {w : World} {base p : Nat} {U F : List Int} {S : LS} {A : LA} (h : BellAt w base p U F S A) : BellAt w 0 p U F S A :=
  ⟨Nat.zero_le _, h.box, h.lu, h.lf, h.lw, h.iu, h.if_, h.ir, h.iw, h.ih, fun h1 h2 => by
    obtain ⟨gu, gf, gr, gw, gh, e1, e2, e3, e4, e5, ho⟩ := h.own h1 h2
    exact ⟨gu, gf, gr, gw, gh, e1, e2, e3, e4, e5, Nat.zero_le _, Nat.zero_le _, Nat.zero_le _, Nat.zero_le _, Nat.zero_le _, ho.ou, ho.of_, ho.or_, ho.ow, ho.oh, ho.rw, ho.rh, ho.wh⟩⟩
theorem ints_lt {w : World} {A : Option Addr} {l : List Int} (h : IntsAt w A l) (hl : l ≠ []) {k o : Nat} (e : A = some ⟨k, o, none⟩) : k < w.heap.size := by
  obtain ⟨b, off, e', hc⟩ := h hl
  rw [e] at e'
  injection e' with e'
  injection e' with e1 e2
  subst e1
  exact block_lt (hc 0 _ (get_gI (List.length_pos_iff.2 hl)))
theorem castL_ne' {l : List Nat} (h : l ≠ []) : castL l ≠ [] := fun e => h (List.map_eq_nil_iff.1 e)
theorem BellAt.has_lt {w : World} {base p : Nat} {U F : List Int} {S : LS} {A : LA} (h : BellAt w base p U F S A) {k : Nat} (hk : A.has U F k) : k < w.heap.size := by
  have hR : U ≠ [] → S.Re ≠ [] := fun hu e => hu (List.length_eq_zero_iff.1 (by rw [h.lu, e]; rfl))
  have hH : F ≠ [] → S.Ho ≠ [] := fun hu e => hu (List.length_eq_zero_iff.1 (by rw [h.lf, e]; rfl))
  have hW : U ≠ [] → S.Wr ≠ [] := fun hu e => hR hu (List.length_eq_zero_iff.1 (by rw [← h.lw, e]; rfl))
  rcases hk with ⟨hu, o, e⟩ | ⟨hu, o, e⟩ | ⟨hu, o, e⟩ | ⟨hu, o, e⟩ | ⟨hu, o, e⟩
  · exact ints_lt h.iu hu e
  · exact ints_lt h.if_ hu e
  · exact ints_lt h.ir (castL_ne' (hR hu)) e
  · exact ints_lt h.iw (castL_ne' (hW hu)) e
  · exact ints_lt h.ih (castL_ne' (hH hu)) e
set_option maxHeartbeats 4000000 in
/-- A new trail. -/
theorem TNew_ok (U F : List Int) (m n : Nat) (hU : U.length = m * 2) (hF : F.length = n * 2) (Ua Fa : Option Addr) (c d : Nat) (w : World) (iU : IntsAt w Ua U) (iF : IntsAt w Fa F) (h1 : labsCode U m 8 = 0) (h2 : labsCode F n 8 = 0) :
    Calls Tryz.prog 81 #[.slice Ua m c, .slice Fa n d] w fun e w' => (∃ b p v A own, e = .returned (.tuple #[.pointer (some ⟨b, 0, none⟩), .nilIface]) ∧ TrailAt w.heap.size own w' b p v A U F (tStart m n)) ∧ Below w.heap.size w w' := by
  have C := Lib.hid (LNew_low U F m n hU hF Ua Fa c d w iU iF h1 h2)
  go_enter Tryz.func81, Tryz.ntmps81
  go_wp2_with (go_at_call 112; with_reducible refine C.out.mono ?_; rintro e w1 ⟨⟨p, A, rfl, hB, hlow⟩, hb1⟩)
  go_ret2
  have hs := hb1.size
  have hbx : BoxN (w1.alloc (.cells #[.pointer (some ⟨p, 0, none⟩), .pointer none, .slice none 0 0, .int .i64 0, .int .i64 0] 193)) w1.heap.size 193 #[.pointer (some ⟨p, 0, none⟩), .pointer none, .slice none 0 0, .int .i64 0, .int .i64 0] := BoxN.new w1 _ _
  have hba : Below w1.heap.size w1 (w1.alloc (.cells #[.pointer (some ⟨p, 0, none⟩), .pointer none, .slice none 0 0, .int .i64 0, .int .i64 0] 193)) := (Below.refl _ _).alloc (Nat.le_refl _) _
  have hB2 := hB.all hba
  refine ⟨⟨w1.heap.size, p, .slice none 0 0, A, fun g => w.heap.size ≤ g ∧ g < (w1.alloc (.cells #[.pointer (some ⟨p, 0, none⟩), .pointer none, .slice none 0 0, .int .i64 0, .int .i64 0] 193)).heap.size, rfl, ⟨.inl ⟨hbx, ⟨rfl, .inl ⟨rfl, rfl⟩⟩⟩, hB2.base0, ⟨hs, hbx.lt⟩, ⟨hB2.bp, hB2.box.lt⟩, fun g hg => ?_, fun g hg => ⟨LA.low_has hlow hg, hB2.has_lt hg⟩, fun hh => ?_, fun g hg => ?_, fun k hk => hk.2, fun k hk => hk.1⟩⟩, hb1.trans (hba.mono hs)⟩
  · simp [Value.ownBlock] at hg
  · have := hB.has_lt hh
    omega
  · simp [Value.ownBlock] at hg
end Go.Proofs.YtanlmfnhlldkeaaGreatDoor

namespace Go.Proofs.YtanlmfnhlldkeaaGreatDoor
set_option linter.unusedVariables false

/-- Lines put together, each with its end. -/
def flatE (ls : List (List UInt8)) : List UInt8 := ls.flatMap (· ++ [10])
theorem flatE_nil : flatE [] = [] := rfl
theorem flatE_cons (x : List UInt8) (ls : List (List UInt8)) : flatE (x :: ls) = x ++ 10 :: flatE ls := by unfold flatE; rw [List.flatMap_cons, List.append_assoc]; rfl
theorem flatE_append (a b : List (List UInt8)) : flatE (a ++ b) = flatE a ++ flatE b := by unfold flatE; rw [List.flatMap_append]
theorem flatE_count : ∀ {ls : List (List UInt8)}, (∀ x ∈ ls, 10 ∉ x) → (flatE ls).count 10 = ls.length
  | [], _ => rfl
  | x :: ls, h => by
    rw [flatE_cons, List.count_append, List.count_cons_self, flatE_count (fun y hy => h y (List.mem_cons_of_mem _ hy)), List.count_eq_zero.2 (h x (List.mem_cons_self ..)), List.length_cons]; omega
theorem dropLast_cons {α : Type} {x : α} {l : List α} (h : l ≠ []) : (x :: l).dropLast = x :: l.dropLast := by
  cases l with
  | nil => exact absurd rfl h
  | cons y r => rfl
theorem cut_flat : ∀ {ls : List (List UInt8)}, (∀ x ∈ ls, 10 ∉ x) → ∀ z : List UInt8, cutL 10 (flatE ls ++ z) = ls ++ cutL 10 z
  | [], _, z => rfl
  | x :: ls, h, z => by
    rw [flatE_cons, List.append_assoc, List.cons_append, cutL_at (h x (List.mem_cons_self ..)), cut_flat (fun y hy => h y (List.mem_cons_of_mem _ hy)), List.cons_append]
/-- Of a beginning just the whole lines. -/
theorem cut_take : ∀ {ls : List (List UInt8)}, (∀ x ∈ ls, 10 ∉ x) → ∀ k : Nat, (cutL 10 ((flatE ls).take k)).dropLast = ls.take (((flatE ls).take k).count 10)
  | [], _, k => by rw [flatE_nil, List.take_nil]; rfl
  | x :: ls, h, k => by
    have hx := h x (List.mem_cons_self ..)
    rw [flatE_cons]
    rcases Nat.lt_or_ge x.length k with hk | hk
    · obtain ⟨m, rfl⟩ : ∃ m, k = x.length + (m + 1) := ⟨k - x.length - 1, by omega⟩
      rw [List.take_length_add_append, List.take_succ_cons, cutL_at hx, dropLast_cons (cutL_ne _ _), cut_take (fun y hy => h y (List.mem_cons_of_mem _ hy)), List.count_append, List.count_cons_self, List.count_eq_zero.2 hx, Nat.zero_add, List.take_succ_cons]
    · have e : (x ++ 10 :: flatE ls).take k = x.take k := by rw [List.take_append_of_le_length hk]
      have hf : 10 ∉ x.take k := fun hm => hx (List.mem_of_mem_take hm)
      rw [e, cutL_none hf, List.count_eq_zero.2 hf]; rfl
section
variable {U F K : List Int} {T : TS}
def askAt (U F K : List Int) (T : TS) (k : Nat) : TS × Nat := tAsk U F T (gI K (k * 4)) (gI K (k * 4 + 1)) (gI K (k * 4 + 2)) (gI K (k * 4 + 3))
/-- The trail behind the first asks. -/
def tRun (U F K : List Int) (T : TS) : Nat → TS
  | 0 => T
  | k + 1 => (askAt U F K (tRun U F K T k) k).1
theorem tRun_succ (k : Nat) : tRun U F K T (k + 1) = (askAt U F K (tRun U F K T k) k).1 := rfl
theorem TInv.run (h : TInv U F T) : ∀ n, TInv U F (tRun U F K T n)
  | 0 => h
  | n + 1 => (h.run n).ask _ _ _ _
theorem askAt_cases (h : TInv U F T) (k : Nat) :
    (T.many = 100 ∧ askAt U F K T k = (T, 4)) ∨ (T.many ≠ 100 ∧ askAt U F K T k = (T, 1)) ∨
    ((askAt U F K T k).2 ≠ 1 ∧ (askAt U F K T k).2 < 10 ∧ T.many ≠ 100 ∧ (askAt U F K T k).1.many = T.many + 1 ∧ ∃ kn un fn tn : Nat, kn < 10 ∧ un < 10 ∧ fn < 10 ∧ tn < 10 ∧ (askAt U F K T k).1.log = T.log ++ (lineOf T kn un fn tn (askAt U F K T k).2 ++ [10]) ∧ tLine U F T (lineOf T kn un fn tn (askAt U F K T k).2) = ((askAt U F K T k).1, 0)) := by
  unfold askAt
  generalize gI K (k * 4) = a
  generalize gI K (k * 4 + 1) = u
  generalize gI K (k * 4 + 2) = f
  generalize gI K (k * 4 + 3) = t
  by_cases h1 : T.many = 100
  · left; exact ⟨h1, by unfold tAsk; rw [if_pos h1]⟩
  · by_cases h2 : (lAsk U F T.S a u f t).2 = 1
    · right; left; exact ⟨h1, by unfold tAsk; rw [if_neg h1, if_pos h2]⟩
    · right; right
      have hb := tLine_back h (k := a) (u := u) (f := f) (t := t) h1 h2
      have hr := TRan.of h2
      have l8 := h.inv.lm
      have n8 := h.inv.ln
      have hc := lAsk_code U F T.S a u f t
      have hcode : (tAsk U F T a u f t).2 = (lAsk U F T.S a u f t).2 := by unfold tAsk; rw [if_neg h1, if_neg h2]
      obtain ⟨⟨_, _⟩, ⟨_, _⟩, ⟨_, _⟩, ⟨_, _⟩⟩ := hr
      refine ⟨by rw [hcode]; exact h2, by rw [hcode]; omega, h1, by unfold tAsk; rw [if_neg h1, if_neg h2]; rfl, a.toNat, u.toNat, f.toNat, (toOf a t).toNat, by omega, by omega, by omega, by omega, ?_, by rw [hcode]; exact hb⟩
      rw [hcode]
      unfold tAsk
      rw [if_neg h1, if_neg h2]
      show T.log ++ _ = _
      unfold lineOf
      rw [List.append_assoc]
/-- What was written, line by line. -/
theorem tRun_lines (h : TInv U F T) (h0 : T.log = []) (hm0 : T.many = 0) : ∀ n, ∃ ls : List (List UInt8), (∀ x ∈ ls, 10 ∉ x) ∧ (tRun U F K T n).log = flatE ls ∧ ls.length = (tRun U F K T n).many ∧
    (∀ r, tLines U F T (ls ++ r) = tLines U F (tRun U F K T n) r) ∧
    (∀ m, m < ls.length → ∃ j, j < n ∧ (tRun U F K T j).many = m ∧ ∃ kn un fn tn e : Nat, kn < 10 ∧ un < 10 ∧ fn < 10 ∧ tn < 10 ∧ e < 10 ∧ ls.getD m [] = lineOf (tRun U F K T j) kn un fn tn e ∧ ∀ r, tLines U F T (ls.take m ++ r) = tLines U F (tRun U F K T j) r)
  | 0 => ⟨[], fun x hx => absurd hx List.not_mem_nil, h0, hm0.symm, fun r => rfl, fun m hm => absurd hm (Nat.not_lt_zero _)⟩
  | n + 1 => by
    obtain ⟨ls, h1, h2, h3, h4, h5⟩ := tRun_lines h h0 hm0 n
    have hc := askAt_cases (K := K) (h.run (K := K) n) n
    have hold : ∀ m, m < ls.length → ∃ j, j < n + 1 ∧ (tRun U F K T j).many = m ∧ ∃ kn un fn tn e : Nat, kn < 10 ∧ un < 10 ∧ fn < 10 ∧ tn < 10 ∧ e < 10 ∧ ls.getD m [] = lineOf (tRun U F K T j) kn un fn tn e ∧ ∀ r, tLines U F T (ls.take m ++ r) = tLines U F (tRun U F K T j) r := fun m hm => by
      obtain ⟨j, hj, r⟩ := h5 m hm
      exact ⟨j, by omega, r⟩
    rcases hc with ⟨_, hc⟩ | ⟨_, hc⟩ | ⟨hc1, hc2, hc3, hc4, kn, un, fn, tn, b1, b2, b3, b4, hlog, hline⟩
    · rw [tRun_succ, hc]; exact ⟨ls, h1, h2, h3, h4, hold⟩
    · rw [tRun_succ, hc]; exact ⟨ls, h1, h2, h3, h4, hold⟩
    · refine ⟨ls ++ [lineOf (tRun U F K T n) kn un fn tn (askAt U F K (tRun U F K T n) n).2], ?_, ?_, ?_, ?_, ?_⟩
      · intro x hx
        rcases List.mem_append.1 hx with hx | hx
        · exact h1 x hx
        · rw [List.mem_singleton.1 hx]; exact lineOf_free _ _ _ _ _ _
      · rw [tRun_succ, hlog, h2, flatE_append, flatE_cons, flatE_nil]
      · rw [tRun_succ, hc4, List.length_append, h3]; rfl
      · intro r
        rw [List.append_assoc, h4, tRun_succ, List.cons_append, List.nil_append, tLines, hline]
        rfl
      · intro m hm
        rw [List.length_append, List.length_singleton] at hm
        rcases Nat.lt_or_ge m ls.length with hlt | hge
        · obtain ⟨j, hj, hj1, kn', un', fn', tn', e', c1, c2, c3, c4, c5, c6, c7⟩ := hold m hlt
          refine ⟨j, hj, hj1, kn', un', fn', tn', e', c1, c2, c3, c4, c5, ?_, fun r => ?_⟩
          · rw [← c6, List.getD_eq_getElem?_getD, List.getD_eq_getElem?_getD, List.getElem?_append_left hlt]
          · rw [List.take_append_of_le_length (by omega)]; exact c7 r
        · obtain rfl : m = ls.length := by omega
          refine ⟨n, by omega, h3.symm, kn, un, fn, tn, (askAt U F K (tRun U F K T n) n).2, b1, b2, b3, b4, hc2, ?_, fun r => ?_⟩
          · rw [List.getD_eq_getElem?_getD, List.getElem?_append_right (Nat.le_refl _), Nat.sub_self]; rfl
          · rw [List.take_append_of_le_length (Nat.le_refl _), List.take_length]; exact h4 r
/-- Opened of any beginning: the trail behind so many asks as have whole lines. -/
theorem open_torn (h : TInv U F T) (h0 : T.log = []) (hm0 : T.many = 0) (n k : Nat) :
    (((tRun U F K T n).log.take k).count 10 ≤ (tRun U F K T n).many) ∧
    ∀ j, j ≤ n → (tRun U F K T j).many = ((tRun U F K T n).log.take k).count 10 → tOpen U F T ((tRun U F K T n).log.take k) = (tRun U F K T j, (tRun U F K T j).many, 0) := by
  obtain ⟨ls, h1, h2, h3, h4, h5⟩ := tRun_lines (K := K) h h0 hm0 n
  have hcnt : ((tRun U F K T n).log.take k).count 10 ≤ (tRun U F K T n).many := by
    rw [h2, ← h3, ← flatE_count h1]
    exact (List.take_sublist _ _).count_le _
  refine ⟨hcnt, fun j hj hmj => ?_⟩
  unfold tOpen
  rw [h2] at hmj ⊢
  rw [cut_take h1, ← hmj]
  -- the first lines are those of the first asks
  obtain ⟨lj, g1, g2, g3, g4, _⟩ := tRun_lines (K := K) h h0 hm0 j
  have hpre : ∀ i, ∃ z, (tRun U F K T (j + i)).log = (tRun U F K T j).log ++ z := by
    intro i
    induction i with
    | zero => exact ⟨[], by rw [List.append_nil]; rfl⟩
    | succ i ih =>
      obtain ⟨z, hz⟩ := ih
      have hc := askAt_cases (K := K) (h.run (K := K) (j + i)) (j + i)
      rw [← Nat.add_assoc, tRun_succ]
      rcases hc with ⟨_, hc⟩ | ⟨_, hc⟩ | ⟨_, _, _, _, kn, un, fn, tn, _, _, _, _, hlog, _⟩
      · rw [hc]; exact ⟨z, hz⟩
      · rw [hc]; exact ⟨z, hz⟩
      · rw [hlog, hz]; exact ⟨_, List.append_assoc _ _ _⟩
  obtain ⟨z, hz⟩ := hpre (n - j)
  rw [show j + (n - j) = n by omega, h2, g2] at hz
  have hls : ls ++ [[]] = lj ++ cutL 10 z := by
    have e1 := cut_flat h1 []
    rw [List.append_nil, hz, cut_flat g1] at e1
    exact e1.symm
  have htake : ls.take (tRun U F K T j).many = lj := by
    have hle : lj.length ≤ ls.length := by
      have hcn : (cutL 10 z).length ≠ 0 := fun e => cutL_ne 10 z (List.length_eq_zero_iff.1 e)
      have := congrArg List.length hls
      rw [List.length_append, List.length_append, List.length_singleton] at this
      omega
    rw [← g3]
    have := congrArg (List.take lj.length) hls
    rw [List.take_append_of_le_length hle, List.take_append_of_le_length (Nat.le_refl _), List.take_length] at this
    exact this
  rw [htake]
  have := g4 []
  rw [List.append_nil] at this
  rw [this, tLines]
/-- Opened whole it is as it was. -/
theorem open_whole (h : TInv U F T) (h0 : T.log = []) (hm0 : T.many = 0) (n : Nat) : tOpen U F T (tRun U F K T n).log = (tRun U F K T n, (tRun U F K T n).many, 0) := by
  obtain ⟨ls, h1, h2, h3, _⟩ := tRun_lines (K := K) h h0 hm0 n
  have := (open_torn (K := K) h h0 hm0 n (tRun U F K T n).log.length).2 n (Nat.le_refl _) (by rw [List.take_length, h2, flatE_count h1, h3])
  rwa [List.take_length] at this
end
section
variable {U F K : List Int} {T : TS}
end
end Go.Proofs.YtanlmfnhlldkeaaGreatDoor
