/-
  The document's reader of programs, whole: Parse.
-/
import Derived.Test.YtfpghfmdkbdojaaGreatDoorPsI
import Derived.Test.YtfpghfmdkbdojaaGreatDoorPsG
namespace Go.Proofs.YtfpghfmdkbdojaaGreatDoor
open Go.RowKit
set_option maxRecDepth 100000
set_option linter.unusedVariables false

theorem RValue_all {s : ByteArray} (hs : s.size ≤ 300) : ∀ f, PsC s 47 (pValue f) f
  | 0 => RValue_any hs fun g h => by cases h
  | f + 1 => RValue_any hs fun g h => by
    have : g = f := by omega
    subst this
    exact RValue_all hs g
theorem RList_all {s : ByteArray} (hs : s.size ≤ 300) (f : Nat) : PsC s 24 (pList (f + 1)) (f + 1) := by
  induction f using Nat.strongRecOn with
  | _ f ih =>
    refine RList_any hs fun g hg h1 => ?_
    obtain ⟨k, rfl⟩ : ∃ k, g = k + 1 := ⟨g - 1, by omega⟩
    exact ROne_any hs (RValue_all hs (k + 1)) (RBlock_any hs (ih k (by omega)))
/-- What the document's Parse tells. -/
def ParsePost (s : ByteArray) (w : World) (e : Ending) (w' : World) : Prop := match readP s with
  | .bad k => e = .returned (.tuple #[.slice none 0 0, .int .i64 (k : Nat)]) ∧ Below w.heap.size w w'
  | .good _ _ o => (∃ A n c, e = .returned (.tuple #[.slice A n c, .int .i64 0]) ∧ OwnN w' 0 (.slice A n c) n o) ∧ Below w.heap.size w w'
theorem keeps_none {w w' : World} {v : Value} (h : PsF w w' (.slice none 0 0) v) : Below w.heap.size w w' :=
  ⟨h.keep.os, h.keep.tape, h.keep.output, h.keep.size, fun b hb => h.keep.block b hb (fun e => by cases e)⟩
set_option maxHeartbeats 4000000 in
theorem RParse_full {s : ByteArray} (hs : s.size > 300) (w : World) : Calls Tryz.prog 9 #[.string s] w (ParsePost s w) := by
  have h1 : decide ((s.size : Int) > 300) = true := decide_eq_true (by omega)
  have h2 : decide (300 < s.size) = true := decide_eq_true (by omega)
  have Hr := Lib.hid (show readP s = .bad 4 by unfold readP; rw [if_pos hs])
  go_enter Tryz.func9, Tryz.ntmps9
  go_wp2_with fail
  go_ret2
  show ParsePost s w _ _
  unfold ParsePost
  rw [Hr.out]
  exact ⟨rfl, Below.refl _ _⟩
set_option maxHeartbeats 8000000 in
theorem RParse_short {s : ByteArray} (hs : s.size ≤ 300) (w : World) : Calls Tryz.prog 9 #[.string s] w (ParsePost s w) := by
  have h1 : decide ((s.size : Int) > 300) = false := decide_eq_false (by omega)
  have h2 : decide (300 < s.size) = false := decide_eq_false (by omega)
  have CL := Lib.hid (RList_all hs s.size w 0 0 0 0 none [] (Nat.zero_le _) (OwnN.nil w 0) (by decide) (fun _ => by omega))
  have Hr := Lib.hid (show readP s = match pList (s.size + 1) s.data.toList [] with
      | .bad k => .bad k
      | .good i [] o => .good i [] o
      | .good _ (_ :: _) _ => .bad 2 by unfold readP; rw [if_neg (by omega)]; rfl)
  go_enter Tryz.func9, Tryz.ntmps9
  go_wp2_with fail
  refine CL.out.mono ?_
  rintro r w2 ⟨p2, A2, n2, c2, e2, i2, o2, rfl, hp2, ho2, hn2, hf2, hr2⟩
  have hb2 := keeps_none hf2
  rw [at0_zero, List.drop_zero] at hr2
  clear CL hf2
  have hx : BoxN (w2.alloc (.cells (svA s p2 A2 n2 c2 e2) 57)) w2.heap.size 57 (svA s p2 A2 n2 c2 e2) := BoxN.new w2 _ _
  have hb3 : Below w.heap.size w (w2.alloc (.cells (svA s p2 A2 n2 c2 e2) 57)) := hb2.alloc hb2.size _
  cases hR : pList (s.size + 1) s.data.toList [] with
  | bad k =>
    rw [hR] at hr2 Hr
    obtain ⟨rfl, hk⟩ := psR_bad hr2
    have d0 : ((e2 : Int) == 0) = false := by simp; omega
    have d1 : ((e2 : Int) != 0) = true := by simp; omega
    clear hr2 hR
    go_wp2_with fail
    generalize w2.alloc (.cells (svA s p2 A2 n2 c2 e2) 57) = w3 at *
    obtain ⟨⟨x0, x1, x2, x3⟩, f0, f1, f2, f3⟩ := BoxN.st4 hx
    go_wp2_with fail
    go_quiet (fail)
    go_wp2_with fail
    go_ret2
    show ParsePost s w _ _
    unfold ParsePost
    rw [Hr.out]
    exact ⟨rfl, belowD hb3 nq⟩
  | good i l o =>
    rw [hR] at hr2 Hr
    obtain ⟨rfl, -, hd, rfl⟩ := psR_good hr2
    clear hr2 hR
    cases l with
    | nil =>
      have hle : s.size ≤ p2 := by
        have h3 := List.drop_eq_nil_iff.1 hd
        rw [show s.data.toList.length = s.size from Array.length_toList ..] at h3
        exact h3
      have d0 : decide ((p2 : Int) < (s.size : Int)) = false := decide_eq_false (by omega)
      have d1 : decide (p2 < s.size) = false := decide_eq_false (by omega)
      have ho3 := ho2.below0 ((Below.refl _ w2).alloc (Nat.le_refl _) (.cells (svA s p2 A2 n2 c2 0) 57))
      go_wp2_with fail
      generalize w2.alloc (.cells (svA s p2 A2 n2 c2 0) 57) = w3 at *
      obtain ⟨⟨x0, x1, x2, x3⟩, f0, f1, f2, f3⟩ := BoxN.st4 hx
      go_wp2_with fail
      go_ret2
      show ParsePost s w _ _
      unfold ParsePost
      rw [Hr.out]
      exact ⟨⟨A2, n2, c2, rfl, ho3⟩, hb3⟩
    | cons x l =>
      have hlt : p2 < s.size := by
        rcases Nat.lt_or_ge p2 s.size with h | h
        · exact h
        · rw [List.drop_eq_nil_of_le (by rw [show s.data.toList.length = s.size from Array.length_toList ..]; exact h)] at hd; cases hd
      have d0 : decide ((p2 : Int) < (s.size : Int)) = true := decide_eq_true (by omega)
      have d1 : decide (p2 < s.size) = true := decide_eq_true (by omega)
      have CB := Lib.hid (fun V => RBad_any s p2 0 2 A2 n2 c2 V)
      go_wp2_with fail
      generalize w2.alloc (.cells (svA s p2 A2 n2 c2 0) 57) = w3 at *
      obtain ⟨⟨x0, x1, x2, x3⟩, f0, f1, f2, f3⟩ := BoxN.st4 hx
      go_wp2_with fail
      refine (CB.out _).mono ?_
      rintro r w4 ⟨rfl, hb4⟩
      have hx4 := hx.all hb4
      have hb5 := hb3.trans (hb4.mono hb3.size)
      have hxq := hx4.put4 rfl s p2 A2 n2 c2 2
      clear x0 x1 x2 x3 f0 f1 f2 f3 hx CB hb4 hb3
      obtain ⟨⟨x0, x1, x2, x3⟩, f0, f1, f2, f3⟩ := BoxN.st4 hx4
      have hb6 := below_put4 (g := w2.heap.size) hb5 hb2.size (.string s) (.int .i64 (p2 : Nat)) (.slice A2 n2 c2) (.int .i64 (2 : Nat))
      go_wp2_with fail
      generalize (((w4.setCell ⟨w2.heap.size, 0, none⟩ (.string s)).setCell ⟨w2.heap.size, 1, none⟩ (.int .i64 (p2 : Nat))).setCell ⟨w2.heap.size, 2, none⟩ (.slice A2 n2 c2)).setCell ⟨w2.heap.size, 3, none⟩ (.int .i64 (2 : Nat)) = w5 at *
      obtain ⟨⟨x0, x1, x2, x3⟩, f0, f1, f2, f3⟩ := BoxN.st4 hxq
      clear hx4
      go_quiet (fail)
      go_wp2_with fail
      go_ret2
      show ParsePost s w _ _
      unfold ParsePost
      rw [Hr.out]
      exact ⟨rfl, belowD hb6 nq⟩
theorem RParse_any (s : ByteArray) (w : World) : Calls Tryz.prog 9 #[.string s] w (ParsePost s w) := by
  rcases Nat.lt_or_ge 300 s.size with h | h
  · exact RParse_full h w
  · exact RParse_short h w
end Go.Proofs.YtfpghfmdkbdojaaGreatDoor
