/-
  A trail by its lengths; Ask, by lengths.
-/
import Derived.Test.YtanlmfnhlldkeaaGreatDoorTrE
namespace Go.Proofs.YtanlmfnhlldkeaaGreatDoor
open Go.RowKit
set_option maxRecDepth 100000
set_option linter.unusedVariables false

theorem TrailAt.lower {lo lo' b m : Nat} {own : Nat → Prop} {v : Value} {A : LA} {U F : List Int} {T : TS} {w : World} (h : TrailAt lo own w b m v A U F T) (hl : lo' ≤ lo) : TrailAt lo' own w b m v A U F T :=
  ⟨h.trl, h.bell, h.ob, h.om, h.ov, h.oa, h.nb, h.nv, h.lt, fun k hk => Nat.le_trans hl (h.low k hk)⟩
/-- The lengths of a trail's sets. -/
structure TLen (m n : Nat) (U F : List Int) (T : TS) : Prop where
  inv : TInv U F T
  re : T.S.Re.length = m
  ho : T.S.Ho.length = n
theorem TLen.ask {m n : Nat} {U F : List Int} {T : TS} (h : TLen m n U F T) (k u f t : Int) : TLen m n U F (tAsk U F T k u f t).1 := by
  refine ⟨h.inv.ask k u f t, ?_, ?_⟩
  · unfold tAsk
    split
    · exact h.re
    · split
      · exact h.re
      · exact (lAsk_len k u f t).1.trans h.re
  · unfold tAsk
    split
    · exact h.ho
    · split
      · exact h.ho
      · exact (lAsk_len k u f t).2.trans h.ho
theorem TLen.start {m n : Nat} {U F : List Int} (hm : m ≤ 8) (hn : n ≤ 8) : TLen m n U F (tStart m n) := ⟨TInv.start hm hn, by simp [tStart, lStart], by simp [tStart, lStart, length_pows]⟩
/-- The labels of a pair of lists that are right. -/
structure LabsOk (m n : Nat) (U F : List Int) : Prop where
  cu : labsCode U m 8 = 0
  cf : labsCode F n 8 = 0
  lU : U.length = m * 2
  lF : F.length = n * 2
theorem LabsOk.m8 {m n : Nat} {U F : List Int} (h : LabsOk m n U F) : m ≤ 8 := (labsCode_ok h.cu).1
theorem LabsOk.n8 {m n : Nat} {U F : List Int} (h : LabsOk m n U F) : n ≤ 8 := (labsCode_ok h.cf).1
/-- Ask, by lengths. -/
theorem TAsk_len {W0 w : World} {b p m n : Nat} {own : Nat → Prop} {v : Value} {A : LA} {U F : List Int} {T : TS} (hL : LabsOk m n U F) (hG : Glob W0) (hbW : Below W0.heap.size W0 w) (h : TrailAt W0.heap.size own w b p v A U F T) (hI : TLen m n U F T) (k u f t : Int) :
    Calls Tryz.prog 91 #[.pointer (some ⟨b, 0, none⟩), .agg #[.int .i64 k, .int .i64 u, .int .i64 f, .int .i64 t]] w (AskPost W0.heap.size own w b p A U F (tAsk U F T k u f t).1 (tAsk U F T k u f t).2) :=
  TAsk_any hG hbW h hI.inv (fun i hi => (labsCode_ok hL.cu).2 i (by rw [hI.re] at hi; exact hi)) (fun i hi => (labsCode_ok hL.cf).2 i (by rw [hI.ho] at hi; exact hi)) k u f t
end Go.Proofs.YtanlmfnhlldkeaaGreatDoor
