/-
  Contract: desk.Run.
-/
import Derived.Test.YtanlmfnhlldkeaaGreatDoorDkH
import Derived.Test.YtanlmfnhlldkeaaGreatDoorDkW
import Derived.Test.YtanlmfnhlldkeaaGreatDoorTrO
namespace Go.Proofs.YtanlmfnhlldkeaaGreatDoor
open Go.RowKit
attribute [local go_sem] Oper.semAt_some
attribute [local simp, local go_sem] wide_fn
set_option maxRecDepth 100000
set_option linter.unusedVariables false

theorem setV_len {v : List UInt8} (hv : v.length ≤ 6) (n : Nat) : (setV v n).length ≤ 2000 := by
  have h1 := setLen v (bitsOf n) (fun x hx => by unfold bitsOf at hx; exact List.mem_range.1 (List.mem_filter.1 hx).1)
  have h2 := length_bitsOf n
  unfold setV
  omega
theorem doesV_len6 {v : List UInt8} {j : Nat} (h : doesV v = some j) : v.length ≤ 6 := by
  unfold doesV at h
  split at h
  · rename_i e; subst e; decide
  · split at h
    · rename_i e; subst e; decide
    · split at h
      · rename_i e; subst e; decide
      · split at h
        · rename_i e; subst e; decide
        · cases h
theorem nameE_len (k : Nat) : (nameE k).length ≤ 2000 := by unfold nameE; split <;> decide
theorem toldE_len (k : Nat) : (toldE k).length ≤ 2000 := by
  unfold toldE
  split
  · decide
  · exact nameE_len k
theorem okL_len : okL.length ≤ 2000 := by decide
theorem badL_len : badL.length ≤ 2000 := by decide
theorem stateL_len : stateL.length ≤ 2000 := by decide
theorem fullL_len : fullL.length ≤ 2000 := by decide
theorem crash_len {D : DS} (h : DOk D) {T : TS} (hT : D.T = some T) (k : Nat) : (dCrash D T k).2.length ≤ 2000 := by
  obtain ⟨T', c, he, hr, _, hcl⟩ := (h.tr T hT).torn h.m8 h.n8 k
  have hlog : T.log.length ≤ 1500 := by
    obtain ⟨K, n, rfl⟩ := h.tr T hT
    have hi : TInv D.U D.F (tRun D.U D.F K (tStart D.m D.n) n) := (TInv.start h.m8 h.n8).run n
    have h1 := hi.log
    have h2 := hi.many
    omega
  unfold dCrash
  rw [he, if_pos rfl]
  have := itoa_len19 (n := c) (by omega)
  show (foundL ++ Lib.itoa (c : Int)).length ≤ 2000
  rw [List.length_append, show foundL.length = 6 from rfl]
  omega
theorem act_len {D : DS} (hD : DOk D) {v : List UInt8} {l : List Nat} {r : DS × List UInt8} (h : dAct D v l = some r) : r.2.length ≤ 2000 := by
  unfold dAct at h
  split at h
  · split at h
    · cases h
    · split at h
      · injection h with h; subst h; exact stateL_len
      · injection h with h; subst h; exact toldE_len _
  · split at h
    · cases h
    · split at h
      · cases h
      · rename_i j hj
        have hv := doesV_len6 hj
        split at h
        · injection h with h; subst h; exact stateL_len
        · rename_i hT
          injection h with h
          subst h
          unfold dDo
          split
          · exact setV_len hv _
          · exact setV_len hv _
          · exact setV_len hv _
          · exact crash_len hD hT _
theorem line_len {D : DS} (hD : DOk D) (s : List UInt8) : (dLine D s).2.length ≤ 2000 := by
  unfold dLine
  split
  · unfold dAddU
    split
    · exact nameE_len 2
    · split
      · exact stateL_len
      · split
        · exact fullL_len
        · exact okL_len
  · split
    · unfold dAddF
      split
      · exact nameE_len 2
      · split
        · exact stateL_len
        · split
          · exact fullL_len
          · exact okL_len
    · split
      · unfold dStart
        split
        · exact stateL_len
        · split
          · exact okL_len
          · exact nameE_len _
      · unfold dRest
        split
        · exact badL_len
        · split
          · exact badL_len
          · rename_i h; exact act_len hD h
theorem lines_len : ∀ (l : List (List UInt8)) {D : DS}, DOk D → (dLines D l).2.length ≤ l.length * 2001
  | [], D, _ => Nat.zero_le _
  | s :: r, D, h => by
    have h1 := line_len h s
    have h2 := lines_len r (h.line s)
    rw [dLines]
    dsimp only
    rw [List.length_append, List.length_cons, List.length_cons]
    omega
/-- A session that runs. -/
structure RunSt (w : World) (C bd bo : Nat) (D : DS) (l : List UInt8) (own : Nat → Prop) (vo : Value) (W : World) : Prop where
  dk : DkAt w.heap.size own W bd D
  ce : CellsIn own W
  sb : Sb bo vo (Lib.byteCells l) W
  nC : ¬ own C
  bC : bo ≠ C
  vC : vo.ownBlock ≠ some C
  nb : ¬ own bo
  nv : ∀ g, vo.ownBlock = some g → ¬ own g
  bl : w.heap.size ≤ bo
  vl : ∀ g, vo.ownBlock = some g → w.heap.size ≤ g
  bw : Below w.heap.size w W
  cl : C < W.heap.size
theorem Sb.but {b C B : Nat} {v : Value} {bs : List Value} {W W' : World} (h : Sb b v bs W) (hb : b ≠ C) (hv : v.ownBlock ≠ some C) {row : Option Nat} (hg : W.grownBy W' row) (hr : ∀ r, row = some r → r = C ∨ (B ≤ r ∧ ∃ o : Obj, W.heap[r]? = some o ∧ o.isCells = false)) : Sb b v bs W' := by
  have key : ∀ k, k < W.heap.size → k ≠ C → (∃ o : Obj, W.heap[k]? = some o ∧ o.isCells = true) → W'.heap[k]? = W.heap[k]? := fun k hk hne ho => hg.block k hk fun e => by
    rcases hr k e.symm with e | ⟨_, o, ho', hn⟩
    · exact hne e
    · obtain ⟨o2, ho2, hy⟩ := ho
      rw [ho'] at ho2
      injection ho2 with ho2
      subst ho2
      rw [hn] at hy
      cases hy
  refine h.keep (key b h.lt hb ?_) fun g hgv => key g (h.vlt hgv) (fun e => hv (e ▸ hgv)) ?_
  · rcases h with h | h
    · exact ⟨_, h.1, rfl⟩
    · exact ⟨_, h.1, rfl⟩
  · have hrow : W.ownsRowF 0 5 1 v bs.length bs := h.elim (fun h => h.2) (fun h => h.2)
    rcases hrow.2 with ⟨h0, _⟩ | ⟨g', cap, cur, fz, hv', _, hg', _⟩
    · rw [h0] at hgv; simp [Value.ownBlock] at hgv
    · rw [hv'] at hgv; simp [Value.ownBlock] at hgv; subst hgv; exact ⟨_, hg', rfl⟩
section
variable {w W W' : World} {C bd bo : Nat} {D : DS} {l : List UInt8} {own : Nat → Prop} {vo : Value}
theorem RunSt.but {B : Nat} (h : RunSt w C bd bo D l own vo W) (hB : w.heap.size ≤ B) (hC : w.heap.size ≤ C) {row : Option Nat} (hg : W.grownBy W' row) (hr : ∀ r, row = some r → r = C ∨ (B ≤ r ∧ ∃ o : Obj, W.heap[r]? = some o ∧ o.isCells = false)) : RunSt w C bd bo D l own vo W' :=
  ⟨(h.dk.own_but h.ce h.nC hg hr).1, (h.dk.own_but h.ce h.nC hg hr).2, h.sb.but h.bC h.vC hg hr, h.nC, h.bC, h.vC, h.nb, h.nv, h.bl, h.vl, below_but h.bw hC hB hg hr h.bw.size, Nat.lt_of_lt_of_le h.cl hg.size⟩
/-- Behind a line. -/
theorem RunSt.line (h : RunSt w C bd bo D l own vo W) {r : DS × List UInt8} {e : Ending} (hp : DkPost w.heap.size own W bd r e W') : ∃ own', RunSt w C bd bo r.1 l own' vo W' ∧ QKeeps own W W' := by
  obtain ⟨_, own1, h1, h2, h3⟩ := hp
  obtain ⟨own', t1, t2, t3⟩ := h1.tight
  have hout : ∀ k, own' k → own k ∨ W.heap.size ≤ k := fun k hk => h2 k (t3 k hk)
  have hlow : ∀ k, own k → w.heap.size ≤ k := fun k hk => h.dk.low hk
  refine ⟨own', ⟨t1, t2, h.sb.keep (h3.block bo h.sb.lt h.nb) (fun g hg => h3.block g (h.sb.vlt hg) (h.nv g hg)), ?_, h.bC, h.vC, ?_, ?_, h.bl, h.vl, h3.to_below hlow h.bw h.bw.size, Nat.lt_of_lt_of_le h.cl h3.size⟩, h3⟩
  · intro hh
    rcases hout _ hh with e | e
    · exact h.nC e
    · have := h.cl; omega
  · intro hh
    rcases hout _ hh with e | e
    · exact h.nb e
    · have := h.sb.lt; omega
  · intro g hg hh
    rcases hout _ hh with e | e
    · exact h.nv g hg e
    · have := h.sb.vlt hg; omega
/-- Behind a write. -/
theorem RunSt.wrote (h : RunSt w C bd bo D l own vo W) {l' : List UInt8} {vo' : Value} (hS : Sb bo vo' (Lib.byteCells l') W') (hg : GoesOn W vo vo') (hq : QKeeps (fun k => k = bo ∨ vo.ownBlock = some k) W W') : RunSt w C bd bo D l' own vo' W' := by
  have hin : ∀ k, own k → W'.heap[k]? = W.heap[k]? := fun k hk => hq.block k (h.dk.lt hk) (fun e => e.elim (fun e => h.nb (e ▸ hk)) (fun e => h.nv k e hk))
  refine ⟨h.dk.keep hin hq.size, fun k hk => by rw [hin k hk]; exact h.ce k hk, hS, h.nC, h.bC, ?_, h.nb, ?_, h.bl, ?_, hq.to_below (fun k hk => hk.elim (fun e => e ▸ h.bl) (fun e => h.vl k e)) h.bw h.bw.size, Nat.lt_of_lt_of_le h.cl hq.size⟩
  · intro e
    rcases hg with e1 | ⟨m, hm, e1⟩
    · exact h.vC (e1.symm.trans e)
    · have := h.cl; rw [e1] at e; injection e with e; omega
  · intro g hgv hh
    rcases hg with e1 | ⟨m, hm, e1⟩
    · exact h.nv g (e1.symm.trans hgv) hh
    · have := h.dk.lt hh; rw [e1] at hgv; injection hgv with hgv; omega
  · intro g hgv
    rcases hg with e1 | ⟨m, hm, e1⟩
    · exact h.vl g (e1.symm.trans hgv)
    · have := h.bw.size; rw [e1] at hgv; injection hgv with hgv; omega
theorem RunSt.keepC (h : RunSt w C bd bo D l own vo W) (hq : QKeeps (fun k => k = bo ∨ vo.ownBlock = some k) W W') : KeepC C W W' :=
  hq.block C h.cl (fun e => e.elim (fun e => h.bC e.symm) (fun e => h.vC e))
theorem Sb.cellsIn (h : Sb bo vo (Lib.byteCells l) W) : CellsIn (fun k => k = bo ∨ vo.ownBlock = some k) W := by
  rintro k (rfl | hk)
  · rcases h with h | h
    · exact ⟨_, h.1, rfl⟩
    · exact ⟨_, h.1, rfl⟩
  · have hrow : W.ownsRowF 0 5 1 vo (Lib.byteCells l).length (Lib.byteCells l) := h.elim (fun h => h.2) (fun h => h.2)
    rcases hrow.2 with ⟨h0, _⟩ | ⟨g', cap, cur, fz, hv', _, hg', _⟩
    · rw [h0] at hk; simp [Value.ownBlock] at hk
    · rw [hv'] at hk; simp [Value.ownBlock] at hk; subst hk; exact ⟨_, hg', rfl⟩
end
end Go.Proofs.YtanlmfnhlldkeaaGreatDoor
