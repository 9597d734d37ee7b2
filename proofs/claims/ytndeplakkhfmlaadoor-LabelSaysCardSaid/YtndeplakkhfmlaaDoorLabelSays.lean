/-
  The walk of quietwinglaw1.LabelSays.
-/
import Derived.Test.YtndeplakkhfmlaaDoorStillD
import Derived.Test.YtndeplakkhfmlaaDoorOver
import Derived.Test.YtndeplakkhfmlaaDoorWriteBad
import Derived.Test.YtndeplakkhfmlaaDoorRLabel
import Derived.Test.YtndeplakkhfmlaaDoorRWritten
import Derived.Test.YtndeplakkhfmlaaDoorEither
import Derived.Test.YtndeplakkhfmlaaDoorRParse
import Derived.Test.YtndeplakkhfmlaaDoorLabelC
import Derived.Test.YtndeplakkhfmlaaDoorLabelB
import Derived.Test.YtndeplakkhfmlaaDoorAs
import Derived.Test.YtndeplakkhfmlaaDoorFrame
namespace Go.Proofs.YtndeplakkhfmlaaDoor
open Go.RowKit
set_option maxRecDepth 100000
set_option linter.unusedVariables false
set_option linter.unusedSimpArgs false

section
variable {v s v' s' : Int} {V : World}
theorem L_rlabel {r : Nat} (hr : (if labOk v s then 0 else 1) = r) {z : Int} (hz : (r : Int) = z) : Calls Tryd.prog 16 #[.agg #[.int .i64 v, .int .i64 s]] V fun e w' => e = .returned (.int .i64 z) ∧ Below V.heap.size V w' := by
  subst hz; exact RLabel_any v s V hr
theorem L_check (h : labOk v s) : Calls Tryd.prog 18 #[.agg #[.int .i64 v, .int .i64 s]] V fun e w' => e = .returned (errVal 0) ∧ Below V.heap.size V w' := by
  rw [errVal_zero]; exact LabCheck_ok v s V h
theorem L_check_bad (h : ¬ labOk v s) : Calls Tryd.prog 18 #[.agg #[.int .i64 v, .int .i64 s]] V fun e w' => e = .returned (errVal 1) ∧ Below V.heap.size V w' := by
  rw [errVal_pos (by decide)]; exact LabCheck_bad v s V h
theorem L_written {n m : Nat} {tx : ByteArray} (h : labOk (n : Int) (m : Int)) (ht : (⟨(labText n m).toArray⟩ : ByteArray) = tx) : Calls Tryd.prog 19 #[.agg #[.int .i64 n, .int .i64 m]] V fun e w' => e = .returned (.string tx) ∧ Below V.heap.size V w' := by
  subst ht; exact RWritten_any n m V (by have := h.2.1; omega) (by have := h.2.2.2; omega)
theorem L_write {n m : Nat} {tx : ByteArray} (h : labOk (n : Int) (m : Int)) (ht : (⟨(labText n m).toArray⟩ : ByteArray) = tx) (hT : Tab V) : Calls Tryd.prog 20 #[.agg #[.int .i64 n, .int .i64 m]] V fun e w' => e = .returned (.tuple #[.string tx, errVal 0]) ∧ Below V.heap.size V w' := by
  subst ht; rw [errVal_zero]; exact Write_ok n m V h hT
theorem L_write_bad (h : ¬ labOk v s) : Calls Tryd.prog 20 #[.agg #[.int .i64 v, .int .i64 s]] V fun e w' => e = .returned (.tuple #[.string ⟨#[]⟩, errVal 1]) ∧ Below V.heap.size V w' := Write_bad v s V h
theorem L_rbelow {n m : Nat} {r : Bool} (h : labOk v (n : Int)) (h' : labOk v' (m : Int)) (hr : (decide (v ≤ v') && within n m) = r) : Calls Tryd.prog 21 #[.agg #[.int .i64 v, .int .i64 n], .agg #[.int .i64 v', .int .i64 m]] V fun e w' => e = .returned (.bool r) ∧ Below V.heap.size V w' :=
  RBelow_any v v' n m ⟨h.2.2.1, h.2.2.2⟩ ⟨h'.2.2.1, h'.2.2.2⟩ V (by simpa using hr)
theorem L_below {n m : Nat} {r : Bool} (h : labOk v (n : Int)) (h' : labOk v' (m : Int)) (hr : (decide (v ≤ v') && within n m) = r) : Calls Tryd.prog 7 #[.agg #[.int .i64 v, .int .i64 n], .agg #[.int .i64 v', .int .i64 m]] V fun e w' => e = .returned (.tuple #[.bool r, errVal 0]) ∧ Below V.heap.size V w' := by
  subst hr; rw [errVal_zero]; exact Below_ok v v' n m V h h'
theorem L_below_bad (h : ¬ (labOk v s ∧ labOk v' s')) : Calls Tryd.prog 7 #[.agg #[.int .i64 v, .int .i64 s], .agg #[.int .i64 v', .int .i64 s']] V fun e w' => e = .returned (.tuple #[.bool false, errVal 1]) ∧ Below V.heap.size V w' := by
  rw [errVal_pos (by decide)]; exact Below_bad v s v' s' V h
theorem L_join {n m u : Nat} {x : Int} (h : labOk v (n : Int)) (h' : labOk v' (m : Int)) (hu : n ||| m = u) (hx : max v v' = x) : Calls Tryd.prog 12 #[.agg #[.int .i64 v, .int .i64 n], .agg #[.int .i64 v', .int .i64 m]] V fun e w' => e = .returned (.tuple #[.agg #[.int .i64 x, .int .i64 u], errVal 0]) ∧ Below V.heap.size V w' := by
  subst hu; subst hx; rw [errVal_zero]; exact Join_ok v v' n m V h h'
theorem L_join_bad (h : ¬ (labOk v s ∧ labOk v' s')) : Calls Tryd.prog 12 #[.agg #[.int .i64 v, .int .i64 s], .agg #[.int .i64 v', .int .i64 s']] V fun e w' => e = .returned (.tuple #[.agg #[.int .i64 0, .int .i64 0], errVal 1]) ∧ Below V.heap.size V w' := by
  rw [errVal_pos (by decide)]; exact Join_bad v s v' s' V h
theorem L_meet {n m u : Nat} {x : Int} (h : labOk v (n : Int)) (h' : labOk v' (m : Int)) (hu : n &&& m = u) (hx : min v v' = x) : Calls Tryd.prog 13 #[.agg #[.int .i64 v, .int .i64 n], .agg #[.int .i64 v', .int .i64 m]] V fun e w' => e = .returned (.tuple #[.agg #[.int .i64 x, .int .i64 u], errVal 0]) ∧ Below V.heap.size V w' := by
  subst hu; subst hx; rw [errVal_zero]; exact Meet_ok v v' n m V h h'
theorem L_meet_bad (h : ¬ (labOk v s ∧ labOk v' s')) : Calls Tryd.prog 13 #[.agg #[.int .i64 v, .int .i64 s], .agg #[.int .i64 v', .int .i64 s']] V fun e w' => e = .returned (.tuple #[.agg #[.int .i64 0, .int .i64 0], errVal 1]) ∧ Below V.heap.size V w' := by
  rw [errVal_pos (by decide)]; exact Meet_bad v s v' s' V h
theorem L_err {k : Nat} {z : Int} (hE : ErrT V) (hz : (k : Int) = z) : Calls Tryd.prog 17 #[errVal k, .int .i64 z] V fun e w' => e = .returned (.bool true) ∧ Below V.heap.size V w' := Error_is k z true V hE (by simp [hz])
/-- What a text tells: a label, and whether it is one. -/
def textV (l : List UInt8) : Nat × Nat × Bool := match parseV l with | some (v, m) => (v, m, true) | none => (0, 0, false)
theorem L_rparse {str : ByteArray} {p m : Nat} {o : Bool} (hs : str.size < 2 ^ 48) (h : textV str.data.toList = (p, m, o)) : Calls Tryd.prog 24 #[.string str] V fun e w' => e = .returned (.tuple #[.agg #[.int .i64 p, .int .i64 m], .bool o]) ∧ Below V.heap.size V w' := by
  refine (RParse_any str V hs).mono fun e w' ⟨he, hb⟩ => ⟨?_, hb⟩
  rw [he]
  unfold rparseRes
  unfold textV at h
  cases hp : parseV str.data.toList with
  | none => rw [hp] at h; injection h with h1 h2; injection h2 with h2 h3; subst h1; subst h2; subst h3; rfl
  | some x => rw [hp] at h; injection h with h1 h2; injection h2 with h2 h3; subst h1; subst h2; subst h3; rfl
theorem L_parse {str : ByteArray} {p m : Nat} {o : Bool} {k : Nat} (hs : str.size < 2 ^ 48) (h : textV str.data.toList = (p, m, o)) (hk : k = if o then 0 else 2) : Calls Tryd.prog 25 #[.string str] V fun e w' => e = .returned (.tuple #[.agg #[.int .i64 p, .int .i64 m], errVal k]) ∧ Below V.heap.size V w' := by
  refine (Parse_any str V hs).mono fun e w' ⟨he, hb⟩ => ⟨?_, hb⟩
  rw [he]
  unfold parseRes
  unfold textV at h
  cases hp : parseV str.data.toList with
  | none => rw [hp] at h; injection h with h1 h2; injection h2 with h2 h3; subst h1; subst h2; subst h3; subst hk; rfl
  | some x => rw [hp] at h; injection h with h1 h2; injection h2 with h2 h3; subst h1; subst h2; subst h3; subst hk; rfl
end


set_option maxHeartbeats 8000000 in
theorem LabelSays_ok (v s v' s' : Nat) (str : ByteArray) (h : labOk (v : Int) (s : Int)) (h' : labOk (v' : Int) (s' : Int)) (hstr : str.size < 2 ^ 48) (w : World) (hT : Tab w) (hE : ErrT w) :
    Calls Tryd.prog 4 #[.agg #[.int .i64 v, .int .i64 s], .agg #[.int .i64 v', .int .i64 s'], .string str] w fun e w' => e = .returned (.bool true) ∧ Below w.heap.size w w' := by
  obtain ⟨tx, htx⟩ : ∃ tx, (⟨(labText v s).toArray⟩ : ByteArray) = tx := ⟨_, rfl⟩
  have Htx := Lib.hid htx
  have Hok := Lib.hid h
  have Hok' := Lib.hid h'
  obtain ⟨bl, hbl⟩ : ∃ bl, (decide ((v : Int) ≤ (v' : Int)) && within s s') = bl := ⟨_, rfl⟩
  have Hbl := Lib.hid hbl
  have hs1 := h.2.2.2
  have hs2 := h'.2.2.2
  have HE1 := Lib.hid (fun V => (Either_any s s' V (by omega) (by omega)).mono fun e w' ⟨he, hw⟩ => (⟨he, hw.symm⟩ : _ ∧ _))
  have HE2 := Lib.hid (fun V => (RBoth_any s s' V (by omega) (by omega)).mono fun e w' ⟨he, hw⟩ => (⟨he, hw.symm⟩ : _ ∧ _))
  obtain ⟨u1, hu1⟩ : ∃ u, s ||| s' = u := ⟨_, rfl⟩
  obtain ⟨u2, hu2⟩ : ∃ u, s &&& s' = u := ⟨_, rfl⟩
  rw [hu1] at HE1
  rw [hu2] at HE2
  have Hu1 := Lib.hid hu1
  have Hu2 := Lib.hid hu2
  clear htx h h' hbl hs1 hs2 hu1 hu2
  obtain ⟨p, m, o, hx⟩ : ∃ p m o, textV str.data.toList = (p, m, o) := ⟨_, _, _, rfl⟩
  have Hx := Lib.hid hx
  clear hx
  go_enter Tryd.func4, Tryd.ntmps4
  go_wp2_with fail
  have hA0 : BoxN ((w.alloc (.cells #[.int .i64 v, .int .i64 s] 28)).alloc (.cells #[.int .i64 v', .int .i64 s'] 28)) w.heap.size 28 #[.int .i64 v, .int .i64 s] := (BoxN.new w _ _).alloc _
  have hB0 : BoxN ((w.alloc (.cells #[.int .i64 v, .int .i64 s] 28)).alloc (.cells #[.int .i64 v', .int .i64 s'] 28)) (w.heap.size + 1) 28 #[.int .i64 v', .int .i64 s'] := by
    have := BoxN.new (w.alloc (.cells #[.int .i64 v, .int .i64 s] 28)) 28 #[.int .i64 v', .int .i64 s']
    simpa using this
  have hbl0 : Below w.heap.size w ((w.alloc (.cells #[.int .i64 v, .int .i64 s] 28)).alloc (.cells #[.int .i64 v', .int .i64 s'] 28)) := ((Below.refl _ w).alloc (Nat.le_refl _) _).alloc (by simp) _
  have hT0 := hT.next hbl0
  have hE0 := hE.next hbl0
  generalize (w.alloc (.cells #[.int .i64 v, .int .i64 s] 28)).alloc (.cells #[.int .i64 v', .int .i64 s'] 28) = w0 at *
  have cA0_0 := hA0.cell (k := 0) rfl
  have cA1_0 := hA0.cell (k := 1) rfl
  have cB0_0 := hB0.cell (k := 0) rfl
  have cB1_0 := hB0.cell (k := 1) rfl
  go_wp2_with fail
  with_reducible refine (L_rlabel (r := 0) (if_pos Hok.out) rfl).mono ?_
  rintro e w1 ⟨rfl, hb1⟩
  have hT1 := hT0.next hb1
  have hE1 := hE0.next hb1
  have hbl1 := hbl0.trans (hb1.mono hbl0.size)
  have hA1 := hA0.all hb1
  have hB1 := hB0.all hb1
  have cA0_1 := hA1.cell (k := 0) rfl
  have cA1_1 := hA1.cell (k := 1) rfl
  have cB0_1 := hB1.cell (k := 0) rfl
  have cB1_1 := hB1.cell (k := 1) rfl
  clear hT0 hE0 hbl0 hA0 cA0_0 cA1_0 hB0 cB0_0 cB1_0 hb1
  go_wp2_with fail
  with_reducible refine (L_check Hok.out).mono ?_
  rintro e w2 ⟨rfl, hb2⟩
  have hT2 := hT1.next hb2
  have hE2 := hE1.next hb2
  have hbl2 := hbl1.trans (hb2.mono hbl1.size)
  have hA2 := hA1.all hb2
  have hB2 := hB1.all hb2
  have cA0_2 := hA2.cell (k := 0) rfl
  have cA1_2 := hA2.cell (k := 1) rfl
  have cB0_2 := hB2.cell (k := 0) rfl
  have cB1_2 := hB2.cell (k := 1) rfl
  clear hT1 hE1 hbl1 hA1 cA0_1 cA1_1 hB1 cB0_1 cB1_1 hb2
  go_wp2_with fail
  with_reducible refine (L_err (k := 0) (z := 0) hE2 rfl).mono ?_
  rintro e w3 ⟨rfl, hb3⟩
  have hT3 := hT2.next hb3
  have hE3 := hE2.next hb3
  have hbl3 := hbl2.trans (hb3.mono hbl2.size)
  have hA3 := hA2.all hb3
  have hB3 := hB2.all hb3
  have cA0_3 := hA3.cell (k := 0) rfl
  have cA1_3 := hA3.cell (k := 1) rfl
  have cB0_3 := hB3.cell (k := 0) rfl
  have cB1_3 := hB3.cell (k := 1) rfl
  clear hT2 hE2 hbl2 hA2 cA0_2 cA1_2 hB2 cB0_2 cB1_2 hb3
  go_wp2_with fail
  with_reducible refine (L_written Hok.out Htx.out).mono ?_
  rintro e w4 ⟨rfl, hb4⟩
  have hT4 := hT3.next hb4
  have hE4 := hE3.next hb4
  have hbl4 := hbl3.trans (hb4.mono hbl3.size)
  have hA4 := hA3.all hb4
  have hB4 := hB3.all hb4
  have cA0_4 := hA4.cell (k := 0) rfl
  have cA1_4 := hA4.cell (k := 1) rfl
  have cB0_4 := hB4.cell (k := 0) rfl
  have cB1_4 := hB4.cell (k := 1) rfl
  clear hT3 hE3 hbl3 hA3 cA0_3 cA1_3 hB3 cB0_3 cB1_3 hb4
  go_wp2_with fail
  with_reducible refine (L_write Hok.out Htx.out hT4).mono ?_
  rintro e w5 ⟨rfl, hb5⟩
  have hT5 := hT4.next hb5
  have hE5 := hE4.next hb5
  have hbl5 := hbl4.trans (hb5.mono hbl4.size)
  have hA5 := hA4.all hb5
  have hB5 := hB4.all hb5
  have cA0_5 := hA5.cell (k := 0) rfl
  have cA1_5 := hA5.cell (k := 1) rfl
  have cB0_5 := hB5.cell (k := 0) rfl
  have cB1_5 := hB5.cell (k := 1) rfl
  clear hT4 hE4 hbl4 hA4 cA0_4 cA1_4 hB4 cB0_4 cB1_4 hb5
  go_wp2_with fail
  with_reducible refine (L_err (k := 0) (z := 0) hE5 rfl).mono ?_
  rintro e w6 ⟨rfl, hb6⟩
  have hT6 := hT5.next hb6
  have hE6 := hE5.next hb6
  have hbl6 := hbl5.trans (hb6.mono hbl5.size)
  have hA6 := hA5.all hb6
  have hB6 := hB5.all hb6
  have cA0_6 := hA6.cell (k := 0) rfl
  have cA1_6 := hA6.cell (k := 1) rfl
  have cB0_6 := hB6.cell (k := 0) rfl
  have cB1_6 := hB6.cell (k := 1) rfl
  clear hT5 hE5 hbl5 hA5 cA0_5 cA1_5 hB5 cB0_5 cB1_5 hb6
  go_wp2_with fail
  with_reducible refine (L_rlabel (r := 0) (if_pos Hok'.out) rfl).mono ?_
  rintro e w7 ⟨rfl, hb7⟩
  have hT7 := hT6.next hb7
  have hE7 := hE6.next hb7
  have hbl7 := hbl6.trans (hb7.mono hbl6.size)
  have hA7 := hA6.all hb7
  have hB7 := hB6.all hb7
  have cA0_7 := hA7.cell (k := 0) rfl
  have cA1_7 := hA7.cell (k := 1) rfl
  have cB0_7 := hB7.cell (k := 0) rfl
  have cB1_7 := hB7.cell (k := 1) rfl
  clear hT6 hE6 hbl6 hA6 cA0_6 cA1_6 hB6 cB0_6 cB1_6 hb7
  have nJ : BoxN (World.alloc w7 (.cells #[.int .i64 0, .int .i64 0] 28)) (w7.heap.size) 28 #[.int .i64 0, .int .i64 0] := by have := BoxN.new w7 28 #[.int .i64 0, .int .i64 0]; simpa using this
  have nM : BoxN (World.alloc (World.alloc w7 (.cells #[.int .i64 0, .int .i64 0] 28)) (.cells #[.int .i64 0, .int .i64 0] 28)) (w7.heap.size + 1) 28 #[.int .i64 0, .int .i64 0] := by have := BoxN.new (World.alloc w7 (.cells #[.int .i64 0, .int .i64 0] 28)) 28 #[.int .i64 0, .int .i64 0]; simpa using this
  have hb8 : Below w7.heap.size w7 (World.alloc (World.alloc w7 (.cells #[.int .i64 0, .int .i64 0] 28)) (.cells #[.int .i64 0, .int .i64 0] 28)) := (((Below.refl _ w7).alloc (by simp) (.cells #[.int .i64 0, .int .i64 0] 28)).alloc (by simp) (.cells #[.int .i64 0, .int .i64 0] 28))
  have hT8 := hT7.next hb8
  have hE8 := hE7.next hb8
  have hbl8 := hbl7.trans (hb8.mono hbl7.size)
  have hA8 := hA7.all hb8
  have hB8 := hB7.all hb8
  have hJ8 := (nJ.alloc (.cells #[.int .i64 0, .int .i64 0] 28))
  have hM8 := nM
  have lA8 := hA7.lt
  have lB8 := hB7.lt
  have cA0_8 := hA8.cell (k := 0) rfl
  have cA1_8 := hA8.cell (k := 1) rfl
  have cB0_8 := hB8.cell (k := 0) rfl
  have cB1_8 := hB8.cell (k := 1) rfl
  have cJ0_8 := hJ8.cell (k := 0) rfl
  have cJ1_8 := hJ8.cell (k := 1) rfl
  have cM0_8 := hM8.cell (k := 0) rfl
  have cM1_8 := hM8.cell (k := 1) rfl
  clear hT7 hE7 hbl7 hA7 cA0_7 cA1_7 hB7 cB0_7 cB1_7 hb8 nJ nM
  go_wp2_with fail
  generalize World.alloc (World.alloc w7 (.cells #[.int .i64 0, .int .i64 0] 28)) (.cells #[.int .i64 0, .int .i64 0] 28) = w8 at *
  with_reducible refine (L_rbelow Hok.out Hok'.out (r := bl) Hbl.out).mono ?_
  rintro e w9 ⟨rfl, hb9⟩
  have hT9 := hT8.next hb9
  have hE9 := hE8.next hb9
  have hbl9 := hbl8.trans (hb9.mono hbl8.size)
  have hA9 := hA8.all hb9
  have hB9 := hB8.all hb9
  have hJ9 := hJ8.all hb9
  have hM9 := hM8.all hb9
  have cA0_9 := hA9.cell (k := 0) rfl
  have cA1_9 := hA9.cell (k := 1) rfl
  have cB0_9 := hB9.cell (k := 0) rfl
  have cB1_9 := hB9.cell (k := 1) rfl
  have cJ0_9 := hJ9.cell (k := 0) rfl
  have cJ1_9 := hJ9.cell (k := 1) rfl
  have cM0_9 := hM9.cell (k := 0) rfl
  have cM1_9 := hM9.cell (k := 1) rfl
  clear hT8 hE8 hbl8 hA8 cA0_8 cA1_8 hB8 cB0_8 cB1_8 hJ8 cJ0_8 cJ1_8 hM8 cM0_8 cM1_8 hb9
  go_wp2_with fail
  have fJ0_9 := hJ9.free 0
  have fJ1_9 := hJ9.free 1
  refine wp_still_tailD 8 (by kernel_rfl) (by kernel_rfl) ?_
  simp only [List.take_succ_cons, List.take_zero, List.drop_succ_cons, List.drop_zero]
  repeat (first | still_step | still_call (HE1.out _))
  refine wpStill_nil ?_
  go_wp2_with fail
  have hg10 : Below w.heap.size w9 (World.setCell (World.setCell (w9.drewN 1) ⟨w7.heap.size, 0, none⟩ (.int .i64 v)) ⟨w7.heap.size, 1, none⟩ (.int .i64 u1)) := (((belowD (Below.refl w.heap.size w9) 1).setCell (p := ⟨w7.heap.size, 0, none⟩) (by show w.heap.size ≤ w7.heap.size; omega) (.int .i64 v)).setCell (p := ⟨w7.heap.size, 1, none⟩) (by show w.heap.size ≤ w7.heap.size; omega) (.int .i64 u1))
  have hbl10 := hbl9.trans hg10
  have hT10 := hT.next hbl10
  have hE10 := hE.next hbl10
  have hA10 : BoxN (World.setCell (World.setCell (w9.drewN 1) ⟨w7.heap.size, 0, none⟩ (.int .i64 v)) ⟨w7.heap.size, 1, none⟩ (.int .i64 u1)) (w.heap.size) _ _ := (((hA9.drewN 1).other (a := ⟨w7.heap.size, 0, none⟩) (by show w.heap.size ≠ w7.heap.size; omega) (.int .i64 v)).other (a := ⟨w7.heap.size, 1, none⟩) (by show w.heap.size ≠ w7.heap.size; omega) (.int .i64 u1))
  have hB10 : BoxN (World.setCell (World.setCell (w9.drewN 1) ⟨w7.heap.size, 0, none⟩ (.int .i64 v)) ⟨w7.heap.size, 1, none⟩ (.int .i64 u1)) (w.heap.size + 1) _ _ := (((hB9.drewN 1).other (a := ⟨w7.heap.size, 0, none⟩) (by show w.heap.size + 1 ≠ w7.heap.size; omega) (.int .i64 v)).other (a := ⟨w7.heap.size, 1, none⟩) (by show w.heap.size + 1 ≠ w7.heap.size; omega) (.int .i64 u1))
  have hJ10 : BoxN (World.setCell (World.setCell (w9.drewN 1) ⟨w7.heap.size, 0, none⟩ (.int .i64 v)) ⟨w7.heap.size, 1, none⟩ (.int .i64 u1)) (w7.heap.size) _ _ := (((hJ9.drewN 1).set 0 (.int .i64 v)).set 1 (.int .i64 u1))
  have hM10 : BoxN (World.setCell (World.setCell (w9.drewN 1) ⟨w7.heap.size, 0, none⟩ (.int .i64 v)) ⟨w7.heap.size, 1, none⟩ (.int .i64 u1)) (w7.heap.size + 1) _ _ := (((hM9.drewN 1).other (a := ⟨w7.heap.size, 0, none⟩) (by show w7.heap.size + 1 ≠ w7.heap.size; omega) (.int .i64 v)).other (a := ⟨w7.heap.size, 1, none⟩) (by show w7.heap.size + 1 ≠ w7.heap.size; omega) (.int .i64 u1))
  simp only [List.setIfInBounds_toArray, List.set_cons_succ, List.set_cons_zero] at hA10 hB10 hJ10 hM10
  have cA0_10 := hA10.cell (k := 0) rfl
  have cA1_10 := hA10.cell (k := 1) rfl
  have cB0_10 := hB10.cell (k := 0) rfl
  have cB1_10 := hB10.cell (k := 1) rfl
  have cJ0_10 := hJ10.cell (k := 0) rfl
  have cJ1_10 := hJ10.cell (k := 1) rfl
  have cM0_10 := hM10.cell (k := 0) rfl
  have cM1_10 := hM10.cell (k := 1) rfl
  clear hT9 hE9 hbl9 hA9 cA0_9 cA1_9 hB9 cB0_9 cB1_9 hJ9 cJ0_9 cJ1_9 hM9 cM0_9 cM1_9 hg10 
  generalize (World.setCell (World.setCell (w9.drewN 1) ⟨w7.heap.size, 0, none⟩ (.int .i64 v)) ⟨w7.heap.size, 1, none⟩ (.int .i64 u1)) = w10 at *
  by_cases hvv : (v : Int) < (v' : Int)
  · have dvv : decide ((v : Int) < (v' : Int)) = true := decide_eq_true hvv
    have dvn : decide (v < v') = true := by simpa using dvv
    have Hmx := Lib.hid (show max (v : Int) (v' : Int) = v' by omega)
    have Hmn := Lib.hid (show min (v : Int) (v' : Int) = v by omega)
    clear hvv
    have fM0_10 := hM10.free 0
    have fM1_10 := hM10.free 1
    have fJ0_10 := hJ10.free 0
    have fJ1_10 := hJ10.free 1
    refine wp_still_tailD 8 (by kernel_rfl) (by kernel_rfl) ?_
    simp only [List.take_succ_cons, List.take_zero, List.drop_succ_cons, List.drop_zero]
    repeat (first | still_step | still_call (HE2.out _))
    refine wpStill_nil ?_
    have hA11_1 : BoxN (World.setCell (w10.drewN 1) ⟨w7.heap.size + 1, 0, none⟩ (.int .i64 v')) (w.heap.size) _ _ := ((hA10.drewN 1).other (a := ⟨w7.heap.size + 1, 0, none⟩) (by show w.heap.size ≠ w7.heap.size + 1; omega) (.int .i64 v'))
    have hB11_1 : BoxN (World.setCell (w10.drewN 1) ⟨w7.heap.size + 1, 0, none⟩ (.int .i64 v')) (w.heap.size + 1) _ _ := ((hB10.drewN 1).other (a := ⟨w7.heap.size + 1, 0, none⟩) (by show w.heap.size + 1 ≠ w7.heap.size + 1; omega) (.int .i64 v'))
    have hJ11_1 : BoxN (World.setCell (w10.drewN 1) ⟨w7.heap.size + 1, 0, none⟩ (.int .i64 v')) (w7.heap.size) _ _ := ((hJ10.drewN 1).other (a := ⟨w7.heap.size + 1, 0, none⟩) (by show w7.heap.size ≠ w7.heap.size + 1; omega) (.int .i64 v'))
    have hM11_1 : BoxN (World.setCell (w10.drewN 1) ⟨w7.heap.size + 1, 0, none⟩ (.int .i64 v')) (w7.heap.size + 1) _ _ := ((hM10.drewN 1).set 0 (.int .i64 v'))
    simp only [List.setIfInBounds_toArray, List.set_cons_succ, List.set_cons_zero] at hA11_1 hB11_1 hJ11_1 hM11_1
    have cA0_11_1 := hA11_1.cell (k := 0) rfl
    have cA1_11_1 := hA11_1.cell (k := 1) rfl
    have fA0_11_1 := hA11_1.free 0
    have fA1_11_1 := hA11_1.free 1
    have cB0_11_1 := hB11_1.cell (k := 0) rfl
    have cB1_11_1 := hB11_1.cell (k := 1) rfl
    have fB0_11_1 := hB11_1.free 0
    have fB1_11_1 := hB11_1.free 1
    have cJ0_11_1 := hJ11_1.cell (k := 0) rfl
    have cJ1_11_1 := hJ11_1.cell (k := 1) rfl
    have fJ0_11_1 := hJ11_1.free 0
    have fJ1_11_1 := hJ11_1.free 1
    have cM0_11_1 := hM11_1.cell (k := 0) rfl
    have cM1_11_1 := hM11_1.cell (k := 1) rfl
    have fM0_11_1 := hM11_1.free 0
    have fM1_11_1 := hM11_1.free 1
    have hA11_2 : BoxN (World.setCell (World.setCell (w10.drewN 1) ⟨w7.heap.size + 1, 0, none⟩ (.int .i64 v')) ⟨w7.heap.size + 1, 1, none⟩ (.int .i64 u2)) (w.heap.size) _ _ := (((hA10.drewN 1).other (a := ⟨w7.heap.size + 1, 0, none⟩) (by show w.heap.size ≠ w7.heap.size + 1; omega) (.int .i64 v')).other (a := ⟨w7.heap.size + 1, 1, none⟩) (by show w.heap.size ≠ w7.heap.size + 1; omega) (.int .i64 u2))
    have hB11_2 : BoxN (World.setCell (World.setCell (w10.drewN 1) ⟨w7.heap.size + 1, 0, none⟩ (.int .i64 v')) ⟨w7.heap.size + 1, 1, none⟩ (.int .i64 u2)) (w.heap.size + 1) _ _ := (((hB10.drewN 1).other (a := ⟨w7.heap.size + 1, 0, none⟩) (by show w.heap.size + 1 ≠ w7.heap.size + 1; omega) (.int .i64 v')).other (a := ⟨w7.heap.size + 1, 1, none⟩) (by show w.heap.size + 1 ≠ w7.heap.size + 1; omega) (.int .i64 u2))
    have hJ11_2 : BoxN (World.setCell (World.setCell (w10.drewN 1) ⟨w7.heap.size + 1, 0, none⟩ (.int .i64 v')) ⟨w7.heap.size + 1, 1, none⟩ (.int .i64 u2)) (w7.heap.size) _ _ := (((hJ10.drewN 1).other (a := ⟨w7.heap.size + 1, 0, none⟩) (by show w7.heap.size ≠ w7.heap.size + 1; omega) (.int .i64 v')).other (a := ⟨w7.heap.size + 1, 1, none⟩) (by show w7.heap.size ≠ w7.heap.size + 1; omega) (.int .i64 u2))
    have hM11_2 : BoxN (World.setCell (World.setCell (w10.drewN 1) ⟨w7.heap.size + 1, 0, none⟩ (.int .i64 v')) ⟨w7.heap.size + 1, 1, none⟩ (.int .i64 u2)) (w7.heap.size + 1) _ _ := (((hM10.drewN 1).set 0 (.int .i64 v')).set 1 (.int .i64 u2))
    simp only [List.setIfInBounds_toArray, List.set_cons_succ, List.set_cons_zero] at hA11_2 hB11_2 hJ11_2 hM11_2
    have cA0_11_2 := hA11_2.cell (k := 0) rfl
    have cA1_11_2 := hA11_2.cell (k := 1) rfl
    have fA0_11_2 := hA11_2.free 0
    have fA1_11_2 := hA11_2.free 1
    have cB0_11_2 := hB11_2.cell (k := 0) rfl
    have cB1_11_2 := hB11_2.cell (k := 1) rfl
    have fB0_11_2 := hB11_2.free 0
    have fB1_11_2 := hB11_2.free 1
    have cJ0_11_2 := hJ11_2.cell (k := 0) rfl
    have cJ1_11_2 := hJ11_2.cell (k := 1) rfl
    have fJ0_11_2 := hJ11_2.free 0
    have fJ1_11_2 := hJ11_2.free 1
    have cM0_11_2 := hM11_2.cell (k := 0) rfl
    have cM1_11_2 := hM11_2.cell (k := 1) rfl
    have fM0_11_2 := hM11_2.free 0
    have fM1_11_2 := hM11_2.free 1
    have hA11_3 : BoxN (World.setCell (World.setCell (World.setCell (w10.drewN 1) ⟨w7.heap.size + 1, 0, none⟩ (.int .i64 v')) ⟨w7.heap.size + 1, 1, none⟩ (.int .i64 u2)) ⟨w7.heap.size, 0, none⟩ (.int .i64 v')) (w.heap.size) _ _ := ((((hA10.drewN 1).other (a := ⟨w7.heap.size + 1, 0, none⟩) (by show w.heap.size ≠ w7.heap.size + 1; omega) (.int .i64 v')).other (a := ⟨w7.heap.size + 1, 1, none⟩) (by show w.heap.size ≠ w7.heap.size + 1; omega) (.int .i64 u2)).other (a := ⟨w7.heap.size, 0, none⟩) (by show w.heap.size ≠ w7.heap.size; omega) (.int .i64 v'))
    have hB11_3 : BoxN (World.setCell (World.setCell (World.setCell (w10.drewN 1) ⟨w7.heap.size + 1, 0, none⟩ (.int .i64 v')) ⟨w7.heap.size + 1, 1, none⟩ (.int .i64 u2)) ⟨w7.heap.size, 0, none⟩ (.int .i64 v')) (w.heap.size + 1) _ _ := ((((hB10.drewN 1).other (a := ⟨w7.heap.size + 1, 0, none⟩) (by show w.heap.size + 1 ≠ w7.heap.size + 1; omega) (.int .i64 v')).other (a := ⟨w7.heap.size + 1, 1, none⟩) (by show w.heap.size + 1 ≠ w7.heap.size + 1; omega) (.int .i64 u2)).other (a := ⟨w7.heap.size, 0, none⟩) (by show w.heap.size + 1 ≠ w7.heap.size; omega) (.int .i64 v'))
    have hJ11_3 : BoxN (World.setCell (World.setCell (World.setCell (w10.drewN 1) ⟨w7.heap.size + 1, 0, none⟩ (.int .i64 v')) ⟨w7.heap.size + 1, 1, none⟩ (.int .i64 u2)) ⟨w7.heap.size, 0, none⟩ (.int .i64 v')) (w7.heap.size) _ _ := ((((hJ10.drewN 1).other (a := ⟨w7.heap.size + 1, 0, none⟩) (by show w7.heap.size ≠ w7.heap.size + 1; omega) (.int .i64 v')).other (a := ⟨w7.heap.size + 1, 1, none⟩) (by show w7.heap.size ≠ w7.heap.size + 1; omega) (.int .i64 u2)).set 0 (.int .i64 v'))
    have hM11_3 : BoxN (World.setCell (World.setCell (World.setCell (w10.drewN 1) ⟨w7.heap.size + 1, 0, none⟩ (.int .i64 v')) ⟨w7.heap.size + 1, 1, none⟩ (.int .i64 u2)) ⟨w7.heap.size, 0, none⟩ (.int .i64 v')) (w7.heap.size + 1) _ _ := ((((hM10.drewN 1).set 0 (.int .i64 v')).set 1 (.int .i64 u2)).other (a := ⟨w7.heap.size, 0, none⟩) (by show w7.heap.size + 1 ≠ w7.heap.size; omega) (.int .i64 v'))
    simp only [List.setIfInBounds_toArray, List.set_cons_succ, List.set_cons_zero] at hA11_3 hB11_3 hJ11_3 hM11_3
    have cA0_11_3 := hA11_3.cell (k := 0) rfl
    have cA1_11_3 := hA11_3.cell (k := 1) rfl
    have fA0_11_3 := hA11_3.free 0
    have fA1_11_3 := hA11_3.free 1
    have cB0_11_3 := hB11_3.cell (k := 0) rfl
    have cB1_11_3 := hB11_3.cell (k := 1) rfl
    have fB0_11_3 := hB11_3.free 0
    have fB1_11_3 := hB11_3.free 1
    have cJ0_11_3 := hJ11_3.cell (k := 0) rfl
    have cJ1_11_3 := hJ11_3.cell (k := 1) rfl
    have fJ0_11_3 := hJ11_3.free 0
    have fJ1_11_3 := hJ11_3.free 1
    have cM0_11_3 := hM11_3.cell (k := 0) rfl
    have cM1_11_3 := hM11_3.cell (k := 1) rfl
    have fM0_11_3 := hM11_3.free 0
    have fM1_11_3 := hM11_3.free 1
    have hg11 : Below w.heap.size w10 (World.setCell (World.setCell (World.setCell (World.setCell (w10.drewN 1) ⟨w7.heap.size + 1, 0, none⟩ (.int .i64 v')) ⟨w7.heap.size + 1, 1, none⟩ (.int .i64 u2)) ⟨w7.heap.size, 0, none⟩ (.int .i64 v')) ⟨w7.heap.size + 1, 0, none⟩ (.int .i64 v)) := (((((belowD (Below.refl w.heap.size w10) 1).setCell (p := ⟨w7.heap.size + 1, 0, none⟩) (by show w.heap.size ≤ w7.heap.size + 1; omega) (.int .i64 v')).setCell (p := ⟨w7.heap.size + 1, 1, none⟩) (by show w.heap.size ≤ w7.heap.size + 1; omega) (.int .i64 u2)).setCell (p := ⟨w7.heap.size, 0, none⟩) (by show w.heap.size ≤ w7.heap.size; omega) (.int .i64 v')).setCell (p := ⟨w7.heap.size + 1, 0, none⟩) (by show w.heap.size ≤ w7.heap.size + 1; omega) (.int .i64 v))
    have hbl11 := hbl10.trans hg11
    have hT11 := hT.next hbl11
    have hE11 := hE.next hbl11
    have hA11 : BoxN (World.setCell (World.setCell (World.setCell (World.setCell (w10.drewN 1) ⟨w7.heap.size + 1, 0, none⟩ (.int .i64 v')) ⟨w7.heap.size + 1, 1, none⟩ (.int .i64 u2)) ⟨w7.heap.size, 0, none⟩ (.int .i64 v')) ⟨w7.heap.size + 1, 0, none⟩ (.int .i64 v)) (w.heap.size) _ _ := (((((hA10.drewN 1).other (a := ⟨w7.heap.size + 1, 0, none⟩) (by show w.heap.size ≠ w7.heap.size + 1; omega) (.int .i64 v')).other (a := ⟨w7.heap.size + 1, 1, none⟩) (by show w.heap.size ≠ w7.heap.size + 1; omega) (.int .i64 u2)).other (a := ⟨w7.heap.size, 0, none⟩) (by show w.heap.size ≠ w7.heap.size; omega) (.int .i64 v')).other (a := ⟨w7.heap.size + 1, 0, none⟩) (by show w.heap.size ≠ w7.heap.size + 1; omega) (.int .i64 v))
    have hB11 : BoxN (World.setCell (World.setCell (World.setCell (World.setCell (w10.drewN 1) ⟨w7.heap.size + 1, 0, none⟩ (.int .i64 v')) ⟨w7.heap.size + 1, 1, none⟩ (.int .i64 u2)) ⟨w7.heap.size, 0, none⟩ (.int .i64 v')) ⟨w7.heap.size + 1, 0, none⟩ (.int .i64 v)) (w.heap.size + 1) _ _ := (((((hB10.drewN 1).other (a := ⟨w7.heap.size + 1, 0, none⟩) (by show w.heap.size + 1 ≠ w7.heap.size + 1; omega) (.int .i64 v')).other (a := ⟨w7.heap.size + 1, 1, none⟩) (by show w.heap.size + 1 ≠ w7.heap.size + 1; omega) (.int .i64 u2)).other (a := ⟨w7.heap.size, 0, none⟩) (by show w.heap.size + 1 ≠ w7.heap.size; omega) (.int .i64 v')).other (a := ⟨w7.heap.size + 1, 0, none⟩) (by show w.heap.size + 1 ≠ w7.heap.size + 1; omega) (.int .i64 v))
    have hJ11 : BoxN (World.setCell (World.setCell (World.setCell (World.setCell (w10.drewN 1) ⟨w7.heap.size + 1, 0, none⟩ (.int .i64 v')) ⟨w7.heap.size + 1, 1, none⟩ (.int .i64 u2)) ⟨w7.heap.size, 0, none⟩ (.int .i64 v')) ⟨w7.heap.size + 1, 0, none⟩ (.int .i64 v)) (w7.heap.size) _ _ := (((((hJ10.drewN 1).other (a := ⟨w7.heap.size + 1, 0, none⟩) (by show w7.heap.size ≠ w7.heap.size + 1; omega) (.int .i64 v')).other (a := ⟨w7.heap.size + 1, 1, none⟩) (by show w7.heap.size ≠ w7.heap.size + 1; omega) (.int .i64 u2)).set 0 (.int .i64 v')).other (a := ⟨w7.heap.size + 1, 0, none⟩) (by show w7.heap.size ≠ w7.heap.size + 1; omega) (.int .i64 v))
    have hM11 : BoxN (World.setCell (World.setCell (World.setCell (World.setCell (w10.drewN 1) ⟨w7.heap.size + 1, 0, none⟩ (.int .i64 v')) ⟨w7.heap.size + 1, 1, none⟩ (.int .i64 u2)) ⟨w7.heap.size, 0, none⟩ (.int .i64 v')) ⟨w7.heap.size + 1, 0, none⟩ (.int .i64 v)) (w7.heap.size + 1) _ _ := (((((hM10.drewN 1).set 0 (.int .i64 v')).set 1 (.int .i64 u2)).other (a := ⟨w7.heap.size, 0, none⟩) (by show w7.heap.size + 1 ≠ w7.heap.size; omega) (.int .i64 v')).set 0 (.int .i64 v))
    simp only [List.setIfInBounds_toArray, List.set_cons_succ, List.set_cons_zero] at hA11 hB11 hJ11 hM11
    have cA0_11 := hA11.cell (k := 0) rfl
    have cA1_11 := hA11.cell (k := 1) rfl
    have cB0_11 := hB11.cell (k := 0) rfl
    have cB1_11 := hB11.cell (k := 1) rfl
    have cJ0_11 := hJ11.cell (k := 0) rfl
    have cJ1_11 := hJ11.cell (k := 1) rfl
    have cM0_11 := hM11.cell (k := 0) rfl
    have cM1_11 := hM11.cell (k := 1) rfl
    go_wp2_with fail
    clear hT10 hE10 hbl10 hA10 cA0_10 cA1_10 hB10 cB0_10 cB1_10 hJ10 cJ0_10 cJ1_10 hM10 cM0_10 cM1_10 hg11 hA11_1 cA0_11_1 cA1_11_1 fA0_11_1 fA1_11_1 hB11_1 cB0_11_1 cB1_11_1 fB0_11_1 fB1_11_1 hJ11_1 cJ0_11_1 cJ1_11_1 fJ0_11_1 fJ1_11_1 hM11_1 cM0_11_1 cM1_11_1 fM0_11_1 fM1_11_1 hA11_2 cA0_11_2 cA1_11_2 fA0_11_2 fA1_11_2 hB11_2 cB0_11_2 cB1_11_2 fB0_11_2 fB1_11_2 hJ11_2 cJ0_11_2 cJ1_11_2 fJ0_11_2 fJ1_11_2 hM11_2 cM0_11_2 cM1_11_2 fM0_11_2 fM1_11_2 hA11_3 cA0_11_3 cA1_11_3 fA0_11_3 fA1_11_3 hB11_3 cB0_11_3 cB1_11_3 fB0_11_3 fB1_11_3 hJ11_3 cJ0_11_3 cJ1_11_3 fJ0_11_3 fJ1_11_3 hM11_3 cM0_11_3 cM1_11_3 fM0_11_3 fM1_11_3
    generalize (World.setCell (World.setCell (World.setCell (World.setCell (w10.drewN 1) ⟨w7.heap.size + 1, 0, none⟩ (.int .i64 v')) ⟨w7.heap.size + 1, 1, none⟩ (.int .i64 u2)) ⟨w7.heap.size, 0, none⟩ (.int .i64 v')) ⟨w7.heap.size + 1, 0, none⟩ (.int .i64 v)) = w11 at *
    with_reducible refine (L_below Hok.out Hok'.out (r := bl) Hbl.out).mono ?_
    rintro e w12 ⟨rfl, hb12⟩
    have hT12 := hT11.next hb12
    have hE12 := hE11.next hb12
    have hbl12 := hbl11.trans (hb12.mono hbl11.size)
    have hA12 := hA11.all hb12
    have hB12 := hB11.all hb12
    have hJ12 := hJ11.all hb12
    have hM12 := hM11.all hb12
    have cA0_12 := hA12.cell (k := 0) rfl
    have cA1_12 := hA12.cell (k := 1) rfl
    have cB0_12 := hB12.cell (k := 0) rfl
    have cB1_12 := hB12.cell (k := 1) rfl
    have cJ0_12 := hJ12.cell (k := 0) rfl
    have cJ1_12 := hJ12.cell (k := 1) rfl
    have cM0_12 := hM12.cell (k := 0) rfl
    have cM1_12 := hM12.cell (k := 1) rfl
    clear hT11 hE11 hbl11 hA11 cA0_11 cA1_11 hB11 cB0_11 cB1_11 hJ11 cJ0_11 cJ1_11 hM11 cM0_11 cM1_11 hb12
    go_wp2_with fail
    with_reducible refine (L_err (k := 0) (z := 0) hE12 rfl).mono ?_
    rintro e w13 ⟨rfl, hb13⟩
    have hT13 := hT12.next hb13
    have hE13 := hE12.next hb13
    have hbl13 := hbl12.trans (hb13.mono hbl12.size)
    have hA13 := hA12.all hb13
    have hB13 := hB12.all hb13
    have hJ13 := hJ12.all hb13
    have hM13 := hM12.all hb13
    have cA0_13 := hA13.cell (k := 0) rfl
    have cA1_13 := hA13.cell (k := 1) rfl
    have cB0_13 := hB13.cell (k := 0) rfl
    have cB1_13 := hB13.cell (k := 1) rfl
    have cJ0_13 := hJ13.cell (k := 0) rfl
    have cJ1_13 := hJ13.cell (k := 1) rfl
    have cM0_13 := hM13.cell (k := 0) rfl
    have cM1_13 := hM13.cell (k := 1) rfl
    clear hT12 hE12 hbl12 hA12 cA0_12 cA1_12 hB12 cB0_12 cB1_12 hJ12 cJ0_12 cJ1_12 hM12 cM0_12 cM1_12 hb13
    go_wp2_with fail
    with_reducible refine (L_join Hok.out Hok'.out Hu1.out Hmx.out).mono ?_
    rintro e w14 ⟨rfl, hb14⟩
    have hT14 := hT13.next hb14
    have hE14 := hE13.next hb14
    have hbl14 := hbl13.trans (hb14.mono hbl13.size)
    have hA14 := hA13.all hb14
    have hB14 := hB13.all hb14
    have hJ14 := hJ13.all hb14
    have hM14 := hM13.all hb14
    have cA0_14 := hA14.cell (k := 0) rfl
    have cA1_14 := hA14.cell (k := 1) rfl
    have cB0_14 := hB14.cell (k := 0) rfl
    have cB1_14 := hB14.cell (k := 1) rfl
    have cJ0_14 := hJ14.cell (k := 0) rfl
    have cJ1_14 := hJ14.cell (k := 1) rfl
    have cM0_14 := hM14.cell (k := 0) rfl
    have cM1_14 := hM14.cell (k := 1) rfl
    clear hT13 hE13 hbl13 hA13 cA0_13 cA1_13 hB13 cB0_13 cB1_13 hJ13 cJ0_13 cJ1_13 hM13 cM0_13 cM1_13 hb14
    have nX : BoxN (World.alloc w14 (.cells #[.int .i64 v', .int .i64 u1] 28)) (w14.heap.size) 28 #[.int .i64 v', .int .i64 u1] := by have := BoxN.new w14 28 #[.int .i64 v', .int .i64 u1]; simpa using this
    have hb15 : Below w14.heap.size w14 (World.alloc w14 (.cells #[.int .i64 v', .int .i64 u1] 28)) := ((Below.refl _ w14).alloc (by simp) (.cells #[.int .i64 v', .int .i64 u1] 28))
    have hT15 := hT14.next hb15
    have hE15 := hE14.next hb15
    have hbl15 := hbl14.trans (hb15.mono hbl14.size)
    have hA15 := hA14.all hb15
    have hB15 := hB14.all hb15
    have hJ15 := hJ14.all hb15
    have hM15 := hM14.all hb15
    have hX15 := nX
    have lA15 := hA14.lt
    have lB15 := hB14.lt
    have lJ15 := hJ14.lt
    have lM15 := hM14.lt
    have cA0_15 := hA15.cell (k := 0) rfl
    have cA1_15 := hA15.cell (k := 1) rfl
    have cB0_15 := hB15.cell (k := 0) rfl
    have cB1_15 := hB15.cell (k := 1) rfl
    have cJ0_15 := hJ15.cell (k := 0) rfl
    have cJ1_15 := hJ15.cell (k := 1) rfl
    have cM0_15 := hM15.cell (k := 0) rfl
    have cM1_15 := hM15.cell (k := 1) rfl
    have cX0_15 := hX15.cell (k := 0) rfl
    have cX1_15 := hX15.cell (k := 1) rfl
    clear hT14 hE14 hbl14 hA14 cA0_14 cA1_14 hB14 cB0_14 cB1_14 hJ14 cJ0_14 cJ1_14 hM14 cM0_14 cM1_14 hb15 nX
    go_wp2_with fail
    generalize World.alloc w14 (.cells #[.int .i64 v', .int .i64 u1] 28) = w15 at *
    with_reducible refine (L_err (k := 0) (z := 0) hE15 rfl).mono ?_
    rintro e w16 ⟨rfl, hb16⟩
    have hT16 := hT15.next hb16
    have hE16 := hE15.next hb16
    have hbl16 := hbl15.trans (hb16.mono hbl15.size)
    have hA16 := hA15.all hb16
    have hB16 := hB15.all hb16
    have hJ16 := hJ15.all hb16
    have hM16 := hM15.all hb16
    have hX16 := hX15.all hb16
    have cA0_16 := hA16.cell (k := 0) rfl
    have cA1_16 := hA16.cell (k := 1) rfl
    have cB0_16 := hB16.cell (k := 0) rfl
    have cB1_16 := hB16.cell (k := 1) rfl
    have cJ0_16 := hJ16.cell (k := 0) rfl
    have cJ1_16 := hJ16.cell (k := 1) rfl
    have cM0_16 := hM16.cell (k := 0) rfl
    have cM1_16 := hM16.cell (k := 1) rfl
    have cX0_16 := hX16.cell (k := 0) rfl
    have cX1_16 := hX16.cell (k := 1) rfl
    clear hT15 hE15 hbl15 hA15 cA0_15 cA1_15 hB15 cB0_15 cB1_15 hJ15 cJ0_15 cJ1_15 hM15 cM0_15 cM1_15 hX15 cX0_15 cX1_15 hb16
    go_wp2_with fail
    with_reducible refine (L_meet Hok.out Hok'.out Hu2.out Hmn.out).mono ?_
    rintro e w17 ⟨rfl, hb17⟩
    have hT17 := hT16.next hb17
    have hE17 := hE16.next hb17
    have hbl17 := hbl16.trans (hb17.mono hbl16.size)
    have hA17 := hA16.all hb17
    have hB17 := hB16.all hb17
    have hJ17 := hJ16.all hb17
    have hM17 := hM16.all hb17
    have hX17 := hX16.all hb17
    have cA0_17 := hA17.cell (k := 0) rfl
    have cA1_17 := hA17.cell (k := 1) rfl
    have cB0_17 := hB17.cell (k := 0) rfl
    have cB1_17 := hB17.cell (k := 1) rfl
    have cJ0_17 := hJ17.cell (k := 0) rfl
    have cJ1_17 := hJ17.cell (k := 1) rfl
    have cM0_17 := hM17.cell (k := 0) rfl
    have cM1_17 := hM17.cell (k := 1) rfl
    have cX0_17 := hX17.cell (k := 0) rfl
    have cX1_17 := hX17.cell (k := 1) rfl
    clear hT16 hE16 hbl16 hA16 cA0_16 cA1_16 hB16 cB0_16 cB1_16 hJ16 cJ0_16 cJ1_16 hM16 cM0_16 cM1_16 hX16 cX0_16 cX1_16 hb17
    have fX0_17 := hX17.free 0
    have fX1_17 := hX17.free 1
    have hA18_1 : BoxN (World.setCell w17 ⟨w14.heap.size, 0, none⟩ (.int .i64 v)) (w.heap.size) _ _ := (hA17.other (a := ⟨w14.heap.size, 0, none⟩) (by show w.heap.size ≠ w14.heap.size; omega) (.int .i64 v))
    have hB18_1 : BoxN (World.setCell w17 ⟨w14.heap.size, 0, none⟩ (.int .i64 v)) (w.heap.size + 1) _ _ := (hB17.other (a := ⟨w14.heap.size, 0, none⟩) (by show w.heap.size + 1 ≠ w14.heap.size; omega) (.int .i64 v))
    have hJ18_1 : BoxN (World.setCell w17 ⟨w14.heap.size, 0, none⟩ (.int .i64 v)) (w7.heap.size) _ _ := (hJ17.other (a := ⟨w14.heap.size, 0, none⟩) (by show w7.heap.size ≠ w14.heap.size; omega) (.int .i64 v))
    have hM18_1 : BoxN (World.setCell w17 ⟨w14.heap.size, 0, none⟩ (.int .i64 v)) (w7.heap.size + 1) _ _ := (hM17.other (a := ⟨w14.heap.size, 0, none⟩) (by show w7.heap.size + 1 ≠ w14.heap.size; omega) (.int .i64 v))
    have hX18_1 : BoxN (World.setCell w17 ⟨w14.heap.size, 0, none⟩ (.int .i64 v)) (w14.heap.size) _ _ := (hX17.set 0 (.int .i64 v))
    simp only [List.setIfInBounds_toArray, List.set_cons_succ, List.set_cons_zero] at hA18_1 hB18_1 hJ18_1 hM18_1 hX18_1
    have cA0_18_1 := hA18_1.cell (k := 0) rfl
    have cA1_18_1 := hA18_1.cell (k := 1) rfl
    have fA0_18_1 := hA18_1.free 0
    have fA1_18_1 := hA18_1.free 1
    have cB0_18_1 := hB18_1.cell (k := 0) rfl
    have cB1_18_1 := hB18_1.cell (k := 1) rfl
    have fB0_18_1 := hB18_1.free 0
    have fB1_18_1 := hB18_1.free 1
    have cJ0_18_1 := hJ18_1.cell (k := 0) rfl
    have cJ1_18_1 := hJ18_1.cell (k := 1) rfl
    have fJ0_18_1 := hJ18_1.free 0
    have fJ1_18_1 := hJ18_1.free 1
    have cM0_18_1 := hM18_1.cell (k := 0) rfl
    have cM1_18_1 := hM18_1.cell (k := 1) rfl
    have fM0_18_1 := hM18_1.free 0
    have fM1_18_1 := hM18_1.free 1
    have cX0_18_1 := hX18_1.cell (k := 0) rfl
    have cX1_18_1 := hX18_1.cell (k := 1) rfl
    have fX0_18_1 := hX18_1.free 0
    have fX1_18_1 := hX18_1.free 1
    have hg18 : Below w.heap.size w17 (World.setCell (World.setCell w17 ⟨w14.heap.size, 0, none⟩ (.int .i64 v)) ⟨w14.heap.size, 1, none⟩ (.int .i64 u2)) := (((Below.refl w.heap.size w17).setCell (p := ⟨w14.heap.size, 0, none⟩) (by show w.heap.size ≤ w14.heap.size; omega) (.int .i64 v)).setCell (p := ⟨w14.heap.size, 1, none⟩) (by show w.heap.size ≤ w14.heap.size; omega) (.int .i64 u2))
    have hbl18 := hbl17.trans hg18
    have hT18 := hT.next hbl18
    have hE18 := hE.next hbl18
    have hA18 : BoxN (World.setCell (World.setCell w17 ⟨w14.heap.size, 0, none⟩ (.int .i64 v)) ⟨w14.heap.size, 1, none⟩ (.int .i64 u2)) (w.heap.size) _ _ := ((hA17.other (a := ⟨w14.heap.size, 0, none⟩) (by show w.heap.size ≠ w14.heap.size; omega) (.int .i64 v)).other (a := ⟨w14.heap.size, 1, none⟩) (by show w.heap.size ≠ w14.heap.size; omega) (.int .i64 u2))
    have hB18 : BoxN (World.setCell (World.setCell w17 ⟨w14.heap.size, 0, none⟩ (.int .i64 v)) ⟨w14.heap.size, 1, none⟩ (.int .i64 u2)) (w.heap.size + 1) _ _ := ((hB17.other (a := ⟨w14.heap.size, 0, none⟩) (by show w.heap.size + 1 ≠ w14.heap.size; omega) (.int .i64 v)).other (a := ⟨w14.heap.size, 1, none⟩) (by show w.heap.size + 1 ≠ w14.heap.size; omega) (.int .i64 u2))
    have hJ18 : BoxN (World.setCell (World.setCell w17 ⟨w14.heap.size, 0, none⟩ (.int .i64 v)) ⟨w14.heap.size, 1, none⟩ (.int .i64 u2)) (w7.heap.size) _ _ := ((hJ17.other (a := ⟨w14.heap.size, 0, none⟩) (by show w7.heap.size ≠ w14.heap.size; omega) (.int .i64 v)).other (a := ⟨w14.heap.size, 1, none⟩) (by show w7.heap.size ≠ w14.heap.size; omega) (.int .i64 u2))
    have hM18 : BoxN (World.setCell (World.setCell w17 ⟨w14.heap.size, 0, none⟩ (.int .i64 v)) ⟨w14.heap.size, 1, none⟩ (.int .i64 u2)) (w7.heap.size + 1) _ _ := ((hM17.other (a := ⟨w14.heap.size, 0, none⟩) (by show w7.heap.size + 1 ≠ w14.heap.size; omega) (.int .i64 v)).other (a := ⟨w14.heap.size, 1, none⟩) (by show w7.heap.size + 1 ≠ w14.heap.size; omega) (.int .i64 u2))
    have hX18 : BoxN (World.setCell (World.setCell w17 ⟨w14.heap.size, 0, none⟩ (.int .i64 v)) ⟨w14.heap.size, 1, none⟩ (.int .i64 u2)) (w14.heap.size) _ _ := ((hX17.set 0 (.int .i64 v)).set 1 (.int .i64 u2))
    simp only [List.setIfInBounds_toArray, List.set_cons_succ, List.set_cons_zero] at hA18 hB18 hJ18 hM18 hX18
    have cA0_18 := hA18.cell (k := 0) rfl
    have cA1_18 := hA18.cell (k := 1) rfl
    have cB0_18 := hB18.cell (k := 0) rfl
    have cB1_18 := hB18.cell (k := 1) rfl
    have cJ0_18 := hJ18.cell (k := 0) rfl
    have cJ1_18 := hJ18.cell (k := 1) rfl
    have cM0_18 := hM18.cell (k := 0) rfl
    have cM1_18 := hM18.cell (k := 1) rfl
    have cX0_18 := hX18.cell (k := 0) rfl
    have cX1_18 := hX18.cell (k := 1) rfl
    go_wp2_with fail
    clear hT17 hE17 hbl17 hA17 cA0_17 cA1_17 hB17 cB0_17 cB1_17 hJ17 cJ0_17 cJ1_17 hM17 cM0_17 cM1_17 hX17 cX0_17 cX1_17 hg18 hA18_1 cA0_18_1 cA1_18_1 fA0_18_1 fA1_18_1 hB18_1 cB0_18_1 cB1_18_1 fB0_18_1 fB1_18_1 hJ18_1 cJ0_18_1 cJ1_18_1 fJ0_18_1 fJ1_18_1 hM18_1 cM0_18_1 cM1_18_1 fM0_18_1 fM1_18_1 hX18_1 cX0_18_1 cX1_18_1 fX0_18_1 fX1_18_1
    generalize (World.setCell (World.setCell w17 ⟨w14.heap.size, 0, none⟩ (.int .i64 v)) ⟨w14.heap.size, 1, none⟩ (.int .i64 u2)) = w18 at *
    with_reducible refine (L_err (k := 0) (z := 0) hE18 rfl).mono ?_
    rintro e w19 ⟨rfl, hb19⟩
    have hT19 := hT18.next hb19
    have hE19 := hE18.next hb19
    have hbl19 := hbl18.trans (hb19.mono hbl18.size)
    have hA19 := hA18.all hb19
    have hB19 := hB18.all hb19
    have hJ19 := hJ18.all hb19
    have hM19 := hM18.all hb19
    have hX19 := hX18.all hb19
    have cA0_19 := hA19.cell (k := 0) rfl
    have cA1_19 := hA19.cell (k := 1) rfl
    have cB0_19 := hB19.cell (k := 0) rfl
    have cB1_19 := hB19.cell (k := 1) rfl
    have cJ0_19 := hJ19.cell (k := 0) rfl
    have cJ1_19 := hJ19.cell (k := 1) rfl
    have cM0_19 := hM19.cell (k := 0) rfl
    have cM1_19 := hM19.cell (k := 1) rfl
    have cX0_19 := hX19.cell (k := 0) rfl
    have cX1_19 := hX19.cell (k := 1) rfl
    clear hT18 hE18 hbl18 hA18 cA0_18 cA1_18 hB18 cB0_18 cB1_18 hJ18 cJ0_18 cJ1_18 hM18 cM0_18 cM1_18 hX18 cX0_18 cX1_18 hb19
    go_wp2_with fail
    with_reducible refine (L_rparse (p := p) (m := m) (o := o) hstr Hx.out).mono ?_
    rintro e w20 ⟨rfl, hb20⟩
    have hT20 := hT19.next hb20
    have hE20 := hE19.next hb20
    have hbl20 := hbl19.trans (hb20.mono hbl19.size)
    have hA20 := hA19.all hb20
    have hB20 := hB19.all hb20
    have hJ20 := hJ19.all hb20
    have hM20 := hM19.all hb20
    have hX20 := hX19.all hb20
    have cA0_20 := hA20.cell (k := 0) rfl
    have cA1_20 := hA20.cell (k := 1) rfl
    have cB0_20 := hB20.cell (k := 0) rfl
    have cB1_20 := hB20.cell (k := 1) rfl
    have cJ0_20 := hJ20.cell (k := 0) rfl
    have cJ1_20 := hJ20.cell (k := 1) rfl
    have cM0_20 := hM20.cell (k := 0) rfl
    have cM1_20 := hM20.cell (k := 1) rfl
    have cX0_20 := hX20.cell (k := 0) rfl
    have cX1_20 := hX20.cell (k := 1) rfl
    clear hT19 hE19 hbl19 hA19 cA0_19 cA1_19 hB19 cB0_19 cB1_19 hJ19 cJ0_19 cJ1_19 hM19 cM0_19 cM1_19 hX19 cX0_19 cX1_19 hb20
    cases o with
    | true =>
      have hbw20 := hbl20
      have nW : BoxN (World.alloc w20 (.cells #[.int .i64 p, .int .i64 m] 28)) (w20.heap.size) 28 #[.int .i64 p, .int .i64 m] := by have := BoxN.new w20 28 #[.int .i64 p, .int .i64 m]; simpa using this
      have hb21 : Below w20.heap.size w20 (World.alloc w20 (.cells #[.int .i64 p, .int .i64 m] 28)) := ((Below.refl _ w20).alloc (by simp) (.cells #[.int .i64 p, .int .i64 m] 28))
      have hT21 := hT20.next hb21
      have hE21 := hE20.next hb21
      have hbl21 := hbl20.trans (hb21.mono hbl20.size)
      have hA21 := hA20.all hb21
      have hB21 := hB20.all hb21
      have hJ21 := hJ20.all hb21
      have hM21 := hM20.all hb21
      have hX21 := hX20.all hb21
      have hW21 := nW
      have lA21 := hA20.lt
      have lB21 := hB20.lt
      have lJ21 := hJ20.lt
      have lM21 := hM20.lt
      have lX21 := hX20.lt
      have cA0_21 := hA21.cell (k := 0) rfl
      have cA1_21 := hA21.cell (k := 1) rfl
      have cB0_21 := hB21.cell (k := 0) rfl
      have cB1_21 := hB21.cell (k := 1) rfl
      have cJ0_21 := hJ21.cell (k := 0) rfl
      have cJ1_21 := hJ21.cell (k := 1) rfl
      have cM0_21 := hM21.cell (k := 0) rfl
      have cM1_21 := hM21.cell (k := 1) rfl
      have cX0_21 := hX21.cell (k := 0) rfl
      have cX1_21 := hX21.cell (k := 1) rfl
      have cW0_21 := hW21.cell (k := 0) rfl
      have cW1_21 := hW21.cell (k := 1) rfl
      clear hT20 hE20 hbl20 hA20 cA0_20 cA1_20 hB20 cB0_20 cB1_20 hJ20 cJ0_20 cJ1_20 hM20 cM0_20 cM1_20 hX20 cX0_20 cX1_20 hb21 nW
      go_wp2_with fail
      generalize World.alloc w20 (.cells #[.int .i64 p, .int .i64 m] 28) = w21 at *
      with_reducible refine (L_parse (p := p) (m := m) (o := true) (k := 0) hstr Hx.out rfl).mono ?_
      rintro e w22 ⟨rfl, hb22⟩
      have hT22 := hT21.next hb22
      have hE22 := hE21.next hb22
      have hbl22 := hbl21.trans (hb22.mono hbl21.size)
      have hA22 := hA21.all hb22
      have hB22 := hB21.all hb22
      have hJ22 := hJ21.all hb22
      have hM22 := hM21.all hb22
      have hX22 := hX21.all hb22
      have hW22 := hW21.all hb22
      have cA0_22 := hA22.cell (k := 0) rfl
      have cA1_22 := hA22.cell (k := 1) rfl
      have cB0_22 := hB22.cell (k := 0) rfl
      have cB1_22 := hB22.cell (k := 1) rfl
      have cJ0_22 := hJ22.cell (k := 0) rfl
      have cJ1_22 := hJ22.cell (k := 1) rfl
      have cM0_22 := hM22.cell (k := 0) rfl
      have cM1_22 := hM22.cell (k := 1) rfl
      have cX0_22 := hX22.cell (k := 0) rfl
      have cX1_22 := hX22.cell (k := 1) rfl
      have cW0_22 := hW22.cell (k := 0) rfl
      have cW1_22 := hW22.cell (k := 1) rfl
      clear hT21 hE21 hbl21 hA21 cA0_21 cA1_21 hB21 cB0_21 cB1_21 hJ21 cJ0_21 cJ1_21 hM21 cM0_21 cM1_21 hX21 cX0_21 cX1_21 hW21 cW0_21 cW1_21 hb22
      have nY : BoxN (World.alloc w22 (.cells #[.int .i64 p, .int .i64 m] 28)) (w22.heap.size) 28 #[.int .i64 p, .int .i64 m] := by have := BoxN.new w22 28 #[.int .i64 p, .int .i64 m]; simpa using this
      have hb23 : Below w22.heap.size w22 (World.alloc w22 (.cells #[.int .i64 p, .int .i64 m] 28)) := ((Below.refl _ w22).alloc (by simp) (.cells #[.int .i64 p, .int .i64 m] 28))
      have hT23 := hT22.next hb23
      have hE23 := hE22.next hb23
      have hbl23 := hbl22.trans (hb23.mono hbl22.size)
      have hA23 := hA22.all hb23
      have hB23 := hB22.all hb23
      have hJ23 := hJ22.all hb23
      have hM23 := hM22.all hb23
      have hX23 := hX22.all hb23
      have hW23 := hW22.all hb23
      have hY23 := nY
      have lA23 := hA22.lt
      have lB23 := hB22.lt
      have lJ23 := hJ22.lt
      have lM23 := hM22.lt
      have lX23 := hX22.lt
      have lW23 := hW22.lt
      have cA0_23 := hA23.cell (k := 0) rfl
      have cA1_23 := hA23.cell (k := 1) rfl
      have cB0_23 := hB23.cell (k := 0) rfl
      have cB1_23 := hB23.cell (k := 1) rfl
      have cJ0_23 := hJ23.cell (k := 0) rfl
      have cJ1_23 := hJ23.cell (k := 1) rfl
      have cM0_23 := hM23.cell (k := 0) rfl
      have cM1_23 := hM23.cell (k := 1) rfl
      have cX0_23 := hX23.cell (k := 0) rfl
      have cX1_23 := hX23.cell (k := 1) rfl
      have cW0_23 := hW23.cell (k := 0) rfl
      have cW1_23 := hW23.cell (k := 1) rfl
      have cY0_23 := hY23.cell (k := 0) rfl
      have cY1_23 := hY23.cell (k := 1) rfl
      clear hT22 hE22 hbl22 hA22 cA0_22 cA1_22 hB22 cB0_22 cB1_22 hJ22 cJ0_22 cJ1_22 hM22 cM0_22 cM1_22 hX22 cX0_22 cX1_22 hW22 cW0_22 cW1_22 hb23 nY
      go_wp2_with fail
      generalize World.alloc w22 (.cells #[.int .i64 p, .int .i64 m] 28) = w23 at *
      with_reducible refine (L_err (k := 0) (z := 0) hE23 rfl).mono ?_
      rintro e w24 ⟨rfl, hb24⟩
      have hT24 := hT23.next hb24
      have hE24 := hE23.next hb24
      have hbl24 := hbl23.trans (hb24.mono hbl23.size)
      have hA24 := hA23.all hb24
      have hB24 := hB23.all hb24
      have hJ24 := hJ23.all hb24
      have hM24 := hM23.all hb24
      have hX24 := hX23.all hb24
      have hW24 := hW23.all hb24
      have hY24 := hY23.all hb24
      have cA0_24 := hA24.cell (k := 0) rfl
      have cA1_24 := hA24.cell (k := 1) rfl
      have cB0_24 := hB24.cell (k := 0) rfl
      have cB1_24 := hB24.cell (k := 1) rfl
      have cJ0_24 := hJ24.cell (k := 0) rfl
      have cJ1_24 := hJ24.cell (k := 1) rfl
      have cM0_24 := hM24.cell (k := 0) rfl
      have cM1_24 := hM24.cell (k := 1) rfl
      have cX0_24 := hX24.cell (k := 0) rfl
      have cX1_24 := hX24.cell (k := 1) rfl
      have cW0_24 := hW24.cell (k := 0) rfl
      have cW1_24 := hW24.cell (k := 1) rfl
      have cY0_24 := hY24.cell (k := 0) rfl
      have cY1_24 := hY24.cell (k := 1) rfl
      clear hT23 hE23 hbl23 hA23 cA0_23 cA1_23 hB23 cB0_23 cB1_23 hJ23 cJ0_23 cJ1_23 hM23 cM0_23 cM1_23 hX23 cX0_23 cX1_23 hW23 cW0_23 cW1_23 hY23 cY0_23 cY1_23 hb24
      go_wp2_with fail
      go_ret
      exact ⟨rfl, hbl24⟩
    | false =>
      have hbw20 := hbl20
      have nW : BoxN (World.alloc w20 (.cells #[.int .i64 p, .int .i64 m] 28)) (w20.heap.size) 28 #[.int .i64 p, .int .i64 m] := by have := BoxN.new w20 28 #[.int .i64 p, .int .i64 m]; simpa using this
      have hb21 : Below w20.heap.size w20 (World.alloc w20 (.cells #[.int .i64 p, .int .i64 m] 28)) := ((Below.refl _ w20).alloc (by simp) (.cells #[.int .i64 p, .int .i64 m] 28))
      have hT21 := hT20.next hb21
      have hE21 := hE20.next hb21
      have hbl21 := hbl20.trans (hb21.mono hbl20.size)
      have hA21 := hA20.all hb21
      have hB21 := hB20.all hb21
      have hJ21 := hJ20.all hb21
      have hM21 := hM20.all hb21
      have hX21 := hX20.all hb21
      have hW21 := nW
      have lA21 := hA20.lt
      have lB21 := hB20.lt
      have lJ21 := hJ20.lt
      have lM21 := hM20.lt
      have lX21 := hX20.lt
      have cA0_21 := hA21.cell (k := 0) rfl
      have cA1_21 := hA21.cell (k := 1) rfl
      have cB0_21 := hB21.cell (k := 0) rfl
      have cB1_21 := hB21.cell (k := 1) rfl
      have cJ0_21 := hJ21.cell (k := 0) rfl
      have cJ1_21 := hJ21.cell (k := 1) rfl
      have cM0_21 := hM21.cell (k := 0) rfl
      have cM1_21 := hM21.cell (k := 1) rfl
      have cX0_21 := hX21.cell (k := 0) rfl
      have cX1_21 := hX21.cell (k := 1) rfl
      have cW0_21 := hW21.cell (k := 0) rfl
      have cW1_21 := hW21.cell (k := 1) rfl
      clear hT20 hE20 hbl20 hA20 cA0_20 cA1_20 hB20 cB0_20 cB1_20 hJ20 cJ0_20 cJ1_20 hM20 cM0_20 cM1_20 hX20 cX0_20 cX1_20 hb21 nW
      go_wp2_with fail
      generalize World.alloc w20 (.cells #[.int .i64 p, .int .i64 m] 28) = w21 at *
      with_reducible refine (L_parse (p := p) (m := m) (o := false) (k := 2) hstr Hx.out rfl).mono ?_
      rintro e w22 ⟨rfl, hb22⟩
      have hT22 := hT21.next hb22
      have hE22 := hE21.next hb22
      have hbl22 := hbl21.trans (hb22.mono hbl21.size)
      have hA22 := hA21.all hb22
      have hB22 := hB21.all hb22
      have hJ22 := hJ21.all hb22
      have hM22 := hM21.all hb22
      have hX22 := hX21.all hb22
      have hW22 := hW21.all hb22
      have cA0_22 := hA22.cell (k := 0) rfl
      have cA1_22 := hA22.cell (k := 1) rfl
      have cB0_22 := hB22.cell (k := 0) rfl
      have cB1_22 := hB22.cell (k := 1) rfl
      have cJ0_22 := hJ22.cell (k := 0) rfl
      have cJ1_22 := hJ22.cell (k := 1) rfl
      have cM0_22 := hM22.cell (k := 0) rfl
      have cM1_22 := hM22.cell (k := 1) rfl
      have cX0_22 := hX22.cell (k := 0) rfl
      have cX1_22 := hX22.cell (k := 1) rfl
      have cW0_22 := hW22.cell (k := 0) rfl
      have cW1_22 := hW22.cell (k := 1) rfl
      clear hT21 hE21 hbl21 hA21 cA0_21 cA1_21 hB21 cB0_21 cB1_21 hJ21 cJ0_21 cJ1_21 hM21 cM0_21 cM1_21 hX21 cX0_21 cX1_21 hW21 cW0_21 cW1_21 hb22
      have nY : BoxN (World.alloc w22 (.cells #[.int .i64 p, .int .i64 m] 28)) (w22.heap.size) 28 #[.int .i64 p, .int .i64 m] := by have := BoxN.new w22 28 #[.int .i64 p, .int .i64 m]; simpa using this
      have hb23 : Below w22.heap.size w22 (World.alloc w22 (.cells #[.int .i64 p, .int .i64 m] 28)) := ((Below.refl _ w22).alloc (by simp) (.cells #[.int .i64 p, .int .i64 m] 28))
      have hT23 := hT22.next hb23
      have hE23 := hE22.next hb23
      have hbl23 := hbl22.trans (hb23.mono hbl22.size)
      have hA23 := hA22.all hb23
      have hB23 := hB22.all hb23
      have hJ23 := hJ22.all hb23
      have hM23 := hM22.all hb23
      have hX23 := hX22.all hb23
      have hW23 := hW22.all hb23
      have hY23 := nY
      have lA23 := hA22.lt
      have lB23 := hB22.lt
      have lJ23 := hJ22.lt
      have lM23 := hM22.lt
      have lX23 := hX22.lt
      have lW23 := hW22.lt
      have cA0_23 := hA23.cell (k := 0) rfl
      have cA1_23 := hA23.cell (k := 1) rfl
      have cB0_23 := hB23.cell (k := 0) rfl
      have cB1_23 := hB23.cell (k := 1) rfl
      have cJ0_23 := hJ23.cell (k := 0) rfl
      have cJ1_23 := hJ23.cell (k := 1) rfl
      have cM0_23 := hM23.cell (k := 0) rfl
      have cM1_23 := hM23.cell (k := 1) rfl
      have cX0_23 := hX23.cell (k := 0) rfl
      have cX1_23 := hX23.cell (k := 1) rfl
      have cW0_23 := hW23.cell (k := 0) rfl
      have cW1_23 := hW23.cell (k := 1) rfl
      have cY0_23 := hY23.cell (k := 0) rfl
      have cY1_23 := hY23.cell (k := 1) rfl
      clear hT22 hE22 hbl22 hA22 cA0_22 cA1_22 hB22 cB0_22 cB1_22 hJ22 cJ0_22 cJ1_22 hM22 cM0_22 cM1_22 hX22 cX0_22 cX1_22 hW22 cW0_22 cW1_22 hb23 nY
      go_wp2_with fail
      generalize World.alloc w22 (.cells #[.int .i64 p, .int .i64 m] 28) = w23 at *
      with_reducible refine (L_err (k := 2) (z := 2) hE23 rfl).mono ?_
      rintro e w24 ⟨rfl, hb24⟩
      have hT24 := hT23.next hb24
      have hE24 := hE23.next hb24
      have hbl24 := hbl23.trans (hb24.mono hbl23.size)
      have hA24 := hA23.all hb24
      have hB24 := hB23.all hb24
      have hJ24 := hJ23.all hb24
      have hM24 := hM23.all hb24
      have hX24 := hX23.all hb24
      have hW24 := hW23.all hb24
      have hY24 := hY23.all hb24
      have cA0_24 := hA24.cell (k := 0) rfl
      have cA1_24 := hA24.cell (k := 1) rfl
      have cB0_24 := hB24.cell (k := 0) rfl
      have cB1_24 := hB24.cell (k := 1) rfl
      have cJ0_24 := hJ24.cell (k := 0) rfl
      have cJ1_24 := hJ24.cell (k := 1) rfl
      have cM0_24 := hM24.cell (k := 0) rfl
      have cM1_24 := hM24.cell (k := 1) rfl
      have cX0_24 := hX24.cell (k := 0) rfl
      have cX1_24 := hX24.cell (k := 1) rfl
      have cW0_24 := hW24.cell (k := 0) rfl
      have cW1_24 := hW24.cell (k := 1) rfl
      have cY0_24 := hY24.cell (k := 0) rfl
      have cY1_24 := hY24.cell (k := 1) rfl
      clear hT23 hE23 hbl23 hA23 cA0_23 cA1_23 hB23 cB0_23 cB1_23 hJ23 cJ0_23 cJ1_23 hM23 cM0_23 cM1_23 hX23 cX0_23 cX1_23 hW23 cW0_23 cW1_23 hY23 cY0_23 cY1_23 hb24
      go_wp2_with fail
      go_ret
      exact ⟨rfl, hbl24⟩
  · have dvv : decide ((v : Int) < (v' : Int)) = false := decide_eq_false hvv
    have dvn : decide (v < v') = false := by simpa using dvv
    have Hmx := Lib.hid (show max (v : Int) (v' : Int) = v by omega)
    have Hmn := Lib.hid (show min (v : Int) (v' : Int) = v' by omega)
    clear hvv
    have fM0_10 := hM10.free 0
    have fM1_10 := hM10.free 1
    have fJ0_10 := hJ10.free 0
    have fJ1_10 := hJ10.free 1
    refine wp_still_tailD 8 (by kernel_rfl) (by kernel_rfl) ?_
    simp only [List.take_succ_cons, List.take_zero, List.drop_succ_cons, List.drop_zero]
    repeat (first | still_step | still_call (HE2.out _))
    refine wpStill_nil ?_
    have hA11_1 : BoxN (World.setCell (w10.drewN 1) ⟨w7.heap.size + 1, 0, none⟩ (.int .i64 v')) (w.heap.size) _ _ := ((hA10.drewN 1).other (a := ⟨w7.heap.size + 1, 0, none⟩) (by show w.heap.size ≠ w7.heap.size + 1; omega) (.int .i64 v'))
    have hB11_1 : BoxN (World.setCell (w10.drewN 1) ⟨w7.heap.size + 1, 0, none⟩ (.int .i64 v')) (w.heap.size + 1) _ _ := ((hB10.drewN 1).other (a := ⟨w7.heap.size + 1, 0, none⟩) (by show w.heap.size + 1 ≠ w7.heap.size + 1; omega) (.int .i64 v'))
    have hJ11_1 : BoxN (World.setCell (w10.drewN 1) ⟨w7.heap.size + 1, 0, none⟩ (.int .i64 v')) (w7.heap.size) _ _ := ((hJ10.drewN 1).other (a := ⟨w7.heap.size + 1, 0, none⟩) (by show w7.heap.size ≠ w7.heap.size + 1; omega) (.int .i64 v'))
    have hM11_1 : BoxN (World.setCell (w10.drewN 1) ⟨w7.heap.size + 1, 0, none⟩ (.int .i64 v')) (w7.heap.size + 1) _ _ := ((hM10.drewN 1).set 0 (.int .i64 v'))
    simp only [List.setIfInBounds_toArray, List.set_cons_succ, List.set_cons_zero] at hA11_1 hB11_1 hJ11_1 hM11_1
    have cA0_11_1 := hA11_1.cell (k := 0) rfl
    have cA1_11_1 := hA11_1.cell (k := 1) rfl
    have fA0_11_1 := hA11_1.free 0
    have fA1_11_1 := hA11_1.free 1
    have cB0_11_1 := hB11_1.cell (k := 0) rfl
    have cB1_11_1 := hB11_1.cell (k := 1) rfl
    have fB0_11_1 := hB11_1.free 0
    have fB1_11_1 := hB11_1.free 1
    have cJ0_11_1 := hJ11_1.cell (k := 0) rfl
    have cJ1_11_1 := hJ11_1.cell (k := 1) rfl
    have fJ0_11_1 := hJ11_1.free 0
    have fJ1_11_1 := hJ11_1.free 1
    have cM0_11_1 := hM11_1.cell (k := 0) rfl
    have cM1_11_1 := hM11_1.cell (k := 1) rfl
    have fM0_11_1 := hM11_1.free 0
    have fM1_11_1 := hM11_1.free 1
    have hg11 : Below w.heap.size w10 (World.setCell (World.setCell (w10.drewN 1) ⟨w7.heap.size + 1, 0, none⟩ (.int .i64 v')) ⟨w7.heap.size + 1, 1, none⟩ (.int .i64 u2)) := (((belowD (Below.refl w.heap.size w10) 1).setCell (p := ⟨w7.heap.size + 1, 0, none⟩) (by show w.heap.size ≤ w7.heap.size + 1; omega) (.int .i64 v')).setCell (p := ⟨w7.heap.size + 1, 1, none⟩) (by show w.heap.size ≤ w7.heap.size + 1; omega) (.int .i64 u2))
    have hbl11 := hbl10.trans hg11
    have hT11 := hT.next hbl11
    have hE11 := hE.next hbl11
    have hA11 : BoxN (World.setCell (World.setCell (w10.drewN 1) ⟨w7.heap.size + 1, 0, none⟩ (.int .i64 v')) ⟨w7.heap.size + 1, 1, none⟩ (.int .i64 u2)) (w.heap.size) _ _ := (((hA10.drewN 1).other (a := ⟨w7.heap.size + 1, 0, none⟩) (by show w.heap.size ≠ w7.heap.size + 1; omega) (.int .i64 v')).other (a := ⟨w7.heap.size + 1, 1, none⟩) (by show w.heap.size ≠ w7.heap.size + 1; omega) (.int .i64 u2))
    have hB11 : BoxN (World.setCell (World.setCell (w10.drewN 1) ⟨w7.heap.size + 1, 0, none⟩ (.int .i64 v')) ⟨w7.heap.size + 1, 1, none⟩ (.int .i64 u2)) (w.heap.size + 1) _ _ := (((hB10.drewN 1).other (a := ⟨w7.heap.size + 1, 0, none⟩) (by show w.heap.size + 1 ≠ w7.heap.size + 1; omega) (.int .i64 v')).other (a := ⟨w7.heap.size + 1, 1, none⟩) (by show w.heap.size + 1 ≠ w7.heap.size + 1; omega) (.int .i64 u2))
    have hJ11 : BoxN (World.setCell (World.setCell (w10.drewN 1) ⟨w7.heap.size + 1, 0, none⟩ (.int .i64 v')) ⟨w7.heap.size + 1, 1, none⟩ (.int .i64 u2)) (w7.heap.size) _ _ := (((hJ10.drewN 1).other (a := ⟨w7.heap.size + 1, 0, none⟩) (by show w7.heap.size ≠ w7.heap.size + 1; omega) (.int .i64 v')).other (a := ⟨w7.heap.size + 1, 1, none⟩) (by show w7.heap.size ≠ w7.heap.size + 1; omega) (.int .i64 u2))
    have hM11 : BoxN (World.setCell (World.setCell (w10.drewN 1) ⟨w7.heap.size + 1, 0, none⟩ (.int .i64 v')) ⟨w7.heap.size + 1, 1, none⟩ (.int .i64 u2)) (w7.heap.size + 1) _ _ := (((hM10.drewN 1).set 0 (.int .i64 v')).set 1 (.int .i64 u2))
    simp only [List.setIfInBounds_toArray, List.set_cons_succ, List.set_cons_zero] at hA11 hB11 hJ11 hM11
    have cA0_11 := hA11.cell (k := 0) rfl
    have cA1_11 := hA11.cell (k := 1) rfl
    have cB0_11 := hB11.cell (k := 0) rfl
    have cB1_11 := hB11.cell (k := 1) rfl
    have cJ0_11 := hJ11.cell (k := 0) rfl
    have cJ1_11 := hJ11.cell (k := 1) rfl
    have cM0_11 := hM11.cell (k := 0) rfl
    have cM1_11 := hM11.cell (k := 1) rfl
    go_wp2_with fail
    clear hT10 hE10 hbl10 hA10 cA0_10 cA1_10 hB10 cB0_10 cB1_10 hJ10 cJ0_10 cJ1_10 hM10 cM0_10 cM1_10 hg11 hA11_1 cA0_11_1 cA1_11_1 fA0_11_1 fA1_11_1 hB11_1 cB0_11_1 cB1_11_1 fB0_11_1 fB1_11_1 hJ11_1 cJ0_11_1 cJ1_11_1 fJ0_11_1 fJ1_11_1 hM11_1 cM0_11_1 cM1_11_1 fM0_11_1 fM1_11_1
    generalize (World.setCell (World.setCell (w10.drewN 1) ⟨w7.heap.size + 1, 0, none⟩ (.int .i64 v')) ⟨w7.heap.size + 1, 1, none⟩ (.int .i64 u2)) = w11 at *
    with_reducible refine (L_below Hok.out Hok'.out (r := bl) Hbl.out).mono ?_
    rintro e w12 ⟨rfl, hb12⟩
    have hT12 := hT11.next hb12
    have hE12 := hE11.next hb12
    have hbl12 := hbl11.trans (hb12.mono hbl11.size)
    have hA12 := hA11.all hb12
    have hB12 := hB11.all hb12
    have hJ12 := hJ11.all hb12
    have hM12 := hM11.all hb12
    have cA0_12 := hA12.cell (k := 0) rfl
    have cA1_12 := hA12.cell (k := 1) rfl
    have cB0_12 := hB12.cell (k := 0) rfl
    have cB1_12 := hB12.cell (k := 1) rfl
    have cJ0_12 := hJ12.cell (k := 0) rfl
    have cJ1_12 := hJ12.cell (k := 1) rfl
    have cM0_12 := hM12.cell (k := 0) rfl
    have cM1_12 := hM12.cell (k := 1) rfl
    clear hT11 hE11 hbl11 hA11 cA0_11 cA1_11 hB11 cB0_11 cB1_11 hJ11 cJ0_11 cJ1_11 hM11 cM0_11 cM1_11 hb12
    go_wp2_with fail
    with_reducible refine (L_err (k := 0) (z := 0) hE12 rfl).mono ?_
    rintro e w13 ⟨rfl, hb13⟩
    have hT13 := hT12.next hb13
    have hE13 := hE12.next hb13
    have hbl13 := hbl12.trans (hb13.mono hbl12.size)
    have hA13 := hA12.all hb13
    have hB13 := hB12.all hb13
    have hJ13 := hJ12.all hb13
    have hM13 := hM12.all hb13
    have cA0_13 := hA13.cell (k := 0) rfl
    have cA1_13 := hA13.cell (k := 1) rfl
    have cB0_13 := hB13.cell (k := 0) rfl
    have cB1_13 := hB13.cell (k := 1) rfl
    have cJ0_13 := hJ13.cell (k := 0) rfl
    have cJ1_13 := hJ13.cell (k := 1) rfl
    have cM0_13 := hM13.cell (k := 0) rfl
    have cM1_13 := hM13.cell (k := 1) rfl
    clear hT12 hE12 hbl12 hA12 cA0_12 cA1_12 hB12 cB0_12 cB1_12 hJ12 cJ0_12 cJ1_12 hM12 cM0_12 cM1_12 hb13
    go_wp2_with fail
    with_reducible refine (L_join Hok.out Hok'.out Hu1.out Hmx.out).mono ?_
    rintro e w14 ⟨rfl, hb14⟩
    have hT14 := hT13.next hb14
    have hE14 := hE13.next hb14
    have hbl14 := hbl13.trans (hb14.mono hbl13.size)
    have hA14 := hA13.all hb14
    have hB14 := hB13.all hb14
    have hJ14 := hJ13.all hb14
    have hM14 := hM13.all hb14
    have cA0_14 := hA14.cell (k := 0) rfl
    have cA1_14 := hA14.cell (k := 1) rfl
    have cB0_14 := hB14.cell (k := 0) rfl
    have cB1_14 := hB14.cell (k := 1) rfl
    have cJ0_14 := hJ14.cell (k := 0) rfl
    have cJ1_14 := hJ14.cell (k := 1) rfl
    have cM0_14 := hM14.cell (k := 0) rfl
    have cM1_14 := hM14.cell (k := 1) rfl
    clear hT13 hE13 hbl13 hA13 cA0_13 cA1_13 hB13 cB0_13 cB1_13 hJ13 cJ0_13 cJ1_13 hM13 cM0_13 cM1_13 hb14
    have nX : BoxN (World.alloc w14 (.cells #[.int .i64 v, .int .i64 u1] 28)) (w14.heap.size) 28 #[.int .i64 v, .int .i64 u1] := by have := BoxN.new w14 28 #[.int .i64 v, .int .i64 u1]; simpa using this
    have hb15 : Below w14.heap.size w14 (World.alloc w14 (.cells #[.int .i64 v, .int .i64 u1] 28)) := ((Below.refl _ w14).alloc (by simp) (.cells #[.int .i64 v, .int .i64 u1] 28))
    have hT15 := hT14.next hb15
    have hE15 := hE14.next hb15
    have hbl15 := hbl14.trans (hb15.mono hbl14.size)
    have hA15 := hA14.all hb15
    have hB15 := hB14.all hb15
    have hJ15 := hJ14.all hb15
    have hM15 := hM14.all hb15
    have hX15 := nX
    have lA15 := hA14.lt
    have lB15 := hB14.lt
    have lJ15 := hJ14.lt
    have lM15 := hM14.lt
    have cA0_15 := hA15.cell (k := 0) rfl
    have cA1_15 := hA15.cell (k := 1) rfl
    have cB0_15 := hB15.cell (k := 0) rfl
    have cB1_15 := hB15.cell (k := 1) rfl
    have cJ0_15 := hJ15.cell (k := 0) rfl
    have cJ1_15 := hJ15.cell (k := 1) rfl
    have cM0_15 := hM15.cell (k := 0) rfl
    have cM1_15 := hM15.cell (k := 1) rfl
    have cX0_15 := hX15.cell (k := 0) rfl
    have cX1_15 := hX15.cell (k := 1) rfl
    clear hT14 hE14 hbl14 hA14 cA0_14 cA1_14 hB14 cB0_14 cB1_14 hJ14 cJ0_14 cJ1_14 hM14 cM0_14 cM1_14 hb15 nX
    go_wp2_with fail
    generalize World.alloc w14 (.cells #[.int .i64 v, .int .i64 u1] 28) = w15 at *
    with_reducible refine (L_err (k := 0) (z := 0) hE15 rfl).mono ?_
    rintro e w16 ⟨rfl, hb16⟩
    have hT16 := hT15.next hb16
    have hE16 := hE15.next hb16
    have hbl16 := hbl15.trans (hb16.mono hbl15.size)
    have hA16 := hA15.all hb16
    have hB16 := hB15.all hb16
    have hJ16 := hJ15.all hb16
    have hM16 := hM15.all hb16
    have hX16 := hX15.all hb16
    have cA0_16 := hA16.cell (k := 0) rfl
    have cA1_16 := hA16.cell (k := 1) rfl
    have cB0_16 := hB16.cell (k := 0) rfl
    have cB1_16 := hB16.cell (k := 1) rfl
    have cJ0_16 := hJ16.cell (k := 0) rfl
    have cJ1_16 := hJ16.cell (k := 1) rfl
    have cM0_16 := hM16.cell (k := 0) rfl
    have cM1_16 := hM16.cell (k := 1) rfl
    have cX0_16 := hX16.cell (k := 0) rfl
    have cX1_16 := hX16.cell (k := 1) rfl
    clear hT15 hE15 hbl15 hA15 cA0_15 cA1_15 hB15 cB0_15 cB1_15 hJ15 cJ0_15 cJ1_15 hM15 cM0_15 cM1_15 hX15 cX0_15 cX1_15 hb16
    go_wp2_with fail
    with_reducible refine (L_meet Hok.out Hok'.out Hu2.out Hmn.out).mono ?_
    rintro e w17 ⟨rfl, hb17⟩
    have hT17 := hT16.next hb17
    have hE17 := hE16.next hb17
    have hbl17 := hbl16.trans (hb17.mono hbl16.size)
    have hA17 := hA16.all hb17
    have hB17 := hB16.all hb17
    have hJ17 := hJ16.all hb17
    have hM17 := hM16.all hb17
    have hX17 := hX16.all hb17
    have cA0_17 := hA17.cell (k := 0) rfl
    have cA1_17 := hA17.cell (k := 1) rfl
    have cB0_17 := hB17.cell (k := 0) rfl
    have cB1_17 := hB17.cell (k := 1) rfl
    have cJ0_17 := hJ17.cell (k := 0) rfl
    have cJ1_17 := hJ17.cell (k := 1) rfl
    have cM0_17 := hM17.cell (k := 0) rfl
    have cM1_17 := hM17.cell (k := 1) rfl
    have cX0_17 := hX17.cell (k := 0) rfl
    have cX1_17 := hX17.cell (k := 1) rfl
    clear hT16 hE16 hbl16 hA16 cA0_16 cA1_16 hB16 cB0_16 cB1_16 hJ16 cJ0_16 cJ1_16 hM16 cM0_16 cM1_16 hX16 cX0_16 cX1_16 hb17
    have fX0_17 := hX17.free 0
    have fX1_17 := hX17.free 1
    have hA18_1 : BoxN (World.setCell w17 ⟨w14.heap.size, 0, none⟩ (.int .i64 v')) (w.heap.size) _ _ := (hA17.other (a := ⟨w14.heap.size, 0, none⟩) (by show w.heap.size ≠ w14.heap.size; omega) (.int .i64 v'))
    have hB18_1 : BoxN (World.setCell w17 ⟨w14.heap.size, 0, none⟩ (.int .i64 v')) (w.heap.size + 1) _ _ := (hB17.other (a := ⟨w14.heap.size, 0, none⟩) (by show w.heap.size + 1 ≠ w14.heap.size; omega) (.int .i64 v'))
    have hJ18_1 : BoxN (World.setCell w17 ⟨w14.heap.size, 0, none⟩ (.int .i64 v')) (w7.heap.size) _ _ := (hJ17.other (a := ⟨w14.heap.size, 0, none⟩) (by show w7.heap.size ≠ w14.heap.size; omega) (.int .i64 v'))
    have hM18_1 : BoxN (World.setCell w17 ⟨w14.heap.size, 0, none⟩ (.int .i64 v')) (w7.heap.size + 1) _ _ := (hM17.other (a := ⟨w14.heap.size, 0, none⟩) (by show w7.heap.size + 1 ≠ w14.heap.size; omega) (.int .i64 v'))
    have hX18_1 : BoxN (World.setCell w17 ⟨w14.heap.size, 0, none⟩ (.int .i64 v')) (w14.heap.size) _ _ := (hX17.set 0 (.int .i64 v'))
    simp only [List.setIfInBounds_toArray, List.set_cons_succ, List.set_cons_zero] at hA18_1 hB18_1 hJ18_1 hM18_1 hX18_1
    have cA0_18_1 := hA18_1.cell (k := 0) rfl
    have cA1_18_1 := hA18_1.cell (k := 1) rfl
    have fA0_18_1 := hA18_1.free 0
    have fA1_18_1 := hA18_1.free 1
    have cB0_18_1 := hB18_1.cell (k := 0) rfl
    have cB1_18_1 := hB18_1.cell (k := 1) rfl
    have fB0_18_1 := hB18_1.free 0
    have fB1_18_1 := hB18_1.free 1
    have cJ0_18_1 := hJ18_1.cell (k := 0) rfl
    have cJ1_18_1 := hJ18_1.cell (k := 1) rfl
    have fJ0_18_1 := hJ18_1.free 0
    have fJ1_18_1 := hJ18_1.free 1
    have cM0_18_1 := hM18_1.cell (k := 0) rfl
    have cM1_18_1 := hM18_1.cell (k := 1) rfl
    have fM0_18_1 := hM18_1.free 0
    have fM1_18_1 := hM18_1.free 1
    have cX0_18_1 := hX18_1.cell (k := 0) rfl
    have cX1_18_1 := hX18_1.cell (k := 1) rfl
    have fX0_18_1 := hX18_1.free 0
    have fX1_18_1 := hX18_1.free 1
    have hg18 : Below w.heap.size w17 (World.setCell (World.setCell w17 ⟨w14.heap.size, 0, none⟩ (.int .i64 v')) ⟨w14.heap.size, 1, none⟩ (.int .i64 u2)) := (((Below.refl w.heap.size w17).setCell (p := ⟨w14.heap.size, 0, none⟩) (by show w.heap.size ≤ w14.heap.size; omega) (.int .i64 v')).setCell (p := ⟨w14.heap.size, 1, none⟩) (by show w.heap.size ≤ w14.heap.size; omega) (.int .i64 u2))
    have hbl18 := hbl17.trans hg18
    have hT18 := hT.next hbl18
    have hE18 := hE.next hbl18
    have hA18 : BoxN (World.setCell (World.setCell w17 ⟨w14.heap.size, 0, none⟩ (.int .i64 v')) ⟨w14.heap.size, 1, none⟩ (.int .i64 u2)) (w.heap.size) _ _ := ((hA17.other (a := ⟨w14.heap.size, 0, none⟩) (by show w.heap.size ≠ w14.heap.size; omega) (.int .i64 v')).other (a := ⟨w14.heap.size, 1, none⟩) (by show w.heap.size ≠ w14.heap.size; omega) (.int .i64 u2))
    have hB18 : BoxN (World.setCell (World.setCell w17 ⟨w14.heap.size, 0, none⟩ (.int .i64 v')) ⟨w14.heap.size, 1, none⟩ (.int .i64 u2)) (w.heap.size + 1) _ _ := ((hB17.other (a := ⟨w14.heap.size, 0, none⟩) (by show w.heap.size + 1 ≠ w14.heap.size; omega) (.int .i64 v')).other (a := ⟨w14.heap.size, 1, none⟩) (by show w.heap.size + 1 ≠ w14.heap.size; omega) (.int .i64 u2))
    have hJ18 : BoxN (World.setCell (World.setCell w17 ⟨w14.heap.size, 0, none⟩ (.int .i64 v')) ⟨w14.heap.size, 1, none⟩ (.int .i64 u2)) (w7.heap.size) _ _ := ((hJ17.other (a := ⟨w14.heap.size, 0, none⟩) (by show w7.heap.size ≠ w14.heap.size; omega) (.int .i64 v')).other (a := ⟨w14.heap.size, 1, none⟩) (by show w7.heap.size ≠ w14.heap.size; omega) (.int .i64 u2))
    have hM18 : BoxN (World.setCell (World.setCell w17 ⟨w14.heap.size, 0, none⟩ (.int .i64 v')) ⟨w14.heap.size, 1, none⟩ (.int .i64 u2)) (w7.heap.size + 1) _ _ := ((hM17.other (a := ⟨w14.heap.size, 0, none⟩) (by show w7.heap.size + 1 ≠ w14.heap.size; omega) (.int .i64 v')).other (a := ⟨w14.heap.size, 1, none⟩) (by show w7.heap.size + 1 ≠ w14.heap.size; omega) (.int .i64 u2))
    have hX18 : BoxN (World.setCell (World.setCell w17 ⟨w14.heap.size, 0, none⟩ (.int .i64 v')) ⟨w14.heap.size, 1, none⟩ (.int .i64 u2)) (w14.heap.size) _ _ := ((hX17.set 0 (.int .i64 v')).set 1 (.int .i64 u2))
    simp only [List.setIfInBounds_toArray, List.set_cons_succ, List.set_cons_zero] at hA18 hB18 hJ18 hM18 hX18
    have cA0_18 := hA18.cell (k := 0) rfl
    have cA1_18 := hA18.cell (k := 1) rfl
    have cB0_18 := hB18.cell (k := 0) rfl
    have cB1_18 := hB18.cell (k := 1) rfl
    have cJ0_18 := hJ18.cell (k := 0) rfl
    have cJ1_18 := hJ18.cell (k := 1) rfl
    have cM0_18 := hM18.cell (k := 0) rfl
    have cM1_18 := hM18.cell (k := 1) rfl
    have cX0_18 := hX18.cell (k := 0) rfl
    have cX1_18 := hX18.cell (k := 1) rfl
    go_wp2_with fail
    clear hT17 hE17 hbl17 hA17 cA0_17 cA1_17 hB17 cB0_17 cB1_17 hJ17 cJ0_17 cJ1_17 hM17 cM0_17 cM1_17 hX17 cX0_17 cX1_17 hg18 hA18_1 cA0_18_1 cA1_18_1 fA0_18_1 fA1_18_1 hB18_1 cB0_18_1 cB1_18_1 fB0_18_1 fB1_18_1 hJ18_1 cJ0_18_1 cJ1_18_1 fJ0_18_1 fJ1_18_1 hM18_1 cM0_18_1 cM1_18_1 fM0_18_1 fM1_18_1 hX18_1 cX0_18_1 cX1_18_1 fX0_18_1 fX1_18_1
    generalize (World.setCell (World.setCell w17 ⟨w14.heap.size, 0, none⟩ (.int .i64 v')) ⟨w14.heap.size, 1, none⟩ (.int .i64 u2)) = w18 at *
    with_reducible refine (L_err (k := 0) (z := 0) hE18 rfl).mono ?_
    rintro e w19 ⟨rfl, hb19⟩
    have hT19 := hT18.next hb19
    have hE19 := hE18.next hb19
    have hbl19 := hbl18.trans (hb19.mono hbl18.size)
    have hA19 := hA18.all hb19
    have hB19 := hB18.all hb19
    have hJ19 := hJ18.all hb19
    have hM19 := hM18.all hb19
    have hX19 := hX18.all hb19
    have cA0_19 := hA19.cell (k := 0) rfl
    have cA1_19 := hA19.cell (k := 1) rfl
    have cB0_19 := hB19.cell (k := 0) rfl
    have cB1_19 := hB19.cell (k := 1) rfl
    have cJ0_19 := hJ19.cell (k := 0) rfl
    have cJ1_19 := hJ19.cell (k := 1) rfl
    have cM0_19 := hM19.cell (k := 0) rfl
    have cM1_19 := hM19.cell (k := 1) rfl
    have cX0_19 := hX19.cell (k := 0) rfl
    have cX1_19 := hX19.cell (k := 1) rfl
    clear hT18 hE18 hbl18 hA18 cA0_18 cA1_18 hB18 cB0_18 cB1_18 hJ18 cJ0_18 cJ1_18 hM18 cM0_18 cM1_18 hX18 cX0_18 cX1_18 hb19
    go_wp2_with fail
    with_reducible refine (L_rparse (p := p) (m := m) (o := o) hstr Hx.out).mono ?_
    rintro e w20 ⟨rfl, hb20⟩
    have hT20 := hT19.next hb20
    have hE20 := hE19.next hb20
    have hbl20 := hbl19.trans (hb20.mono hbl19.size)
    have hA20 := hA19.all hb20
    have hB20 := hB19.all hb20
    have hJ20 := hJ19.all hb20
    have hM20 := hM19.all hb20
    have hX20 := hX19.all hb20
    have cA0_20 := hA20.cell (k := 0) rfl
    have cA1_20 := hA20.cell (k := 1) rfl
    have cB0_20 := hB20.cell (k := 0) rfl
    have cB1_20 := hB20.cell (k := 1) rfl
    have cJ0_20 := hJ20.cell (k := 0) rfl
    have cJ1_20 := hJ20.cell (k := 1) rfl
    have cM0_20 := hM20.cell (k := 0) rfl
    have cM1_20 := hM20.cell (k := 1) rfl
    have cX0_20 := hX20.cell (k := 0) rfl
    have cX1_20 := hX20.cell (k := 1) rfl
    clear hT19 hE19 hbl19 hA19 cA0_19 cA1_19 hB19 cB0_19 cB1_19 hJ19 cJ0_19 cJ1_19 hM19 cM0_19 cM1_19 hX19 cX0_19 cX1_19 hb20
    cases o with
    | true =>
      have hbw20 := hbl20
      have nW : BoxN (World.alloc w20 (.cells #[.int .i64 p, .int .i64 m] 28)) (w20.heap.size) 28 #[.int .i64 p, .int .i64 m] := by have := BoxN.new w20 28 #[.int .i64 p, .int .i64 m]; simpa using this
      have hb21 : Below w20.heap.size w20 (World.alloc w20 (.cells #[.int .i64 p, .int .i64 m] 28)) := ((Below.refl _ w20).alloc (by simp) (.cells #[.int .i64 p, .int .i64 m] 28))
      have hT21 := hT20.next hb21
      have hE21 := hE20.next hb21
      have hbl21 := hbl20.trans (hb21.mono hbl20.size)
      have hA21 := hA20.all hb21
      have hB21 := hB20.all hb21
      have hJ21 := hJ20.all hb21
      have hM21 := hM20.all hb21
      have hX21 := hX20.all hb21
      have hW21 := nW
      have lA21 := hA20.lt
      have lB21 := hB20.lt
      have lJ21 := hJ20.lt
      have lM21 := hM20.lt
      have lX21 := hX20.lt
      have cA0_21 := hA21.cell (k := 0) rfl
      have cA1_21 := hA21.cell (k := 1) rfl
      have cB0_21 := hB21.cell (k := 0) rfl
      have cB1_21 := hB21.cell (k := 1) rfl
      have cJ0_21 := hJ21.cell (k := 0) rfl
      have cJ1_21 := hJ21.cell (k := 1) rfl
      have cM0_21 := hM21.cell (k := 0) rfl
      have cM1_21 := hM21.cell (k := 1) rfl
      have cX0_21 := hX21.cell (k := 0) rfl
      have cX1_21 := hX21.cell (k := 1) rfl
      have cW0_21 := hW21.cell (k := 0) rfl
      have cW1_21 := hW21.cell (k := 1) rfl
      clear hT20 hE20 hbl20 hA20 cA0_20 cA1_20 hB20 cB0_20 cB1_20 hJ20 cJ0_20 cJ1_20 hM20 cM0_20 cM1_20 hX20 cX0_20 cX1_20 hb21 nW
      go_wp2_with fail
      generalize World.alloc w20 (.cells #[.int .i64 p, .int .i64 m] 28) = w21 at *
      with_reducible refine (L_parse (p := p) (m := m) (o := true) (k := 0) hstr Hx.out rfl).mono ?_
      rintro e w22 ⟨rfl, hb22⟩
      have hT22 := hT21.next hb22
      have hE22 := hE21.next hb22
      have hbl22 := hbl21.trans (hb22.mono hbl21.size)
      have hA22 := hA21.all hb22
      have hB22 := hB21.all hb22
      have hJ22 := hJ21.all hb22
      have hM22 := hM21.all hb22
      have hX22 := hX21.all hb22
      have hW22 := hW21.all hb22
      have cA0_22 := hA22.cell (k := 0) rfl
      have cA1_22 := hA22.cell (k := 1) rfl
      have cB0_22 := hB22.cell (k := 0) rfl
      have cB1_22 := hB22.cell (k := 1) rfl
      have cJ0_22 := hJ22.cell (k := 0) rfl
      have cJ1_22 := hJ22.cell (k := 1) rfl
      have cM0_22 := hM22.cell (k := 0) rfl
      have cM1_22 := hM22.cell (k := 1) rfl
      have cX0_22 := hX22.cell (k := 0) rfl
      have cX1_22 := hX22.cell (k := 1) rfl
      have cW0_22 := hW22.cell (k := 0) rfl
      have cW1_22 := hW22.cell (k := 1) rfl
      clear hT21 hE21 hbl21 hA21 cA0_21 cA1_21 hB21 cB0_21 cB1_21 hJ21 cJ0_21 cJ1_21 hM21 cM0_21 cM1_21 hX21 cX0_21 cX1_21 hW21 cW0_21 cW1_21 hb22
      have nY : BoxN (World.alloc w22 (.cells #[.int .i64 p, .int .i64 m] 28)) (w22.heap.size) 28 #[.int .i64 p, .int .i64 m] := by have := BoxN.new w22 28 #[.int .i64 p, .int .i64 m]; simpa using this
      have hb23 : Below w22.heap.size w22 (World.alloc w22 (.cells #[.int .i64 p, .int .i64 m] 28)) := ((Below.refl _ w22).alloc (by simp) (.cells #[.int .i64 p, .int .i64 m] 28))
      have hT23 := hT22.next hb23
      have hE23 := hE22.next hb23
      have hbl23 := hbl22.trans (hb23.mono hbl22.size)
      have hA23 := hA22.all hb23
      have hB23 := hB22.all hb23
      have hJ23 := hJ22.all hb23
      have hM23 := hM22.all hb23
      have hX23 := hX22.all hb23
      have hW23 := hW22.all hb23
      have hY23 := nY
      have lA23 := hA22.lt
      have lB23 := hB22.lt
      have lJ23 := hJ22.lt
      have lM23 := hM22.lt
      have lX23 := hX22.lt
      have lW23 := hW22.lt
      have cA0_23 := hA23.cell (k := 0) rfl
      have cA1_23 := hA23.cell (k := 1) rfl
      have cB0_23 := hB23.cell (k := 0) rfl
      have cB1_23 := hB23.cell (k := 1) rfl
      have cJ0_23 := hJ23.cell (k := 0) rfl
      have cJ1_23 := hJ23.cell (k := 1) rfl
      have cM0_23 := hM23.cell (k := 0) rfl
      have cM1_23 := hM23.cell (k := 1) rfl
      have cX0_23 := hX23.cell (k := 0) rfl
      have cX1_23 := hX23.cell (k := 1) rfl
      have cW0_23 := hW23.cell (k := 0) rfl
      have cW1_23 := hW23.cell (k := 1) rfl
      have cY0_23 := hY23.cell (k := 0) rfl
      have cY1_23 := hY23.cell (k := 1) rfl
      clear hT22 hE22 hbl22 hA22 cA0_22 cA1_22 hB22 cB0_22 cB1_22 hJ22 cJ0_22 cJ1_22 hM22 cM0_22 cM1_22 hX22 cX0_22 cX1_22 hW22 cW0_22 cW1_22 hb23 nY
      go_wp2_with fail
      generalize World.alloc w22 (.cells #[.int .i64 p, .int .i64 m] 28) = w23 at *
      with_reducible refine (L_err (k := 0) (z := 0) hE23 rfl).mono ?_
      rintro e w24 ⟨rfl, hb24⟩
      have hT24 := hT23.next hb24
      have hE24 := hE23.next hb24
      have hbl24 := hbl23.trans (hb24.mono hbl23.size)
      have hA24 := hA23.all hb24
      have hB24 := hB23.all hb24
      have hJ24 := hJ23.all hb24
      have hM24 := hM23.all hb24
      have hX24 := hX23.all hb24
      have hW24 := hW23.all hb24
      have hY24 := hY23.all hb24
      have cA0_24 := hA24.cell (k := 0) rfl
      have cA1_24 := hA24.cell (k := 1) rfl
      have cB0_24 := hB24.cell (k := 0) rfl
      have cB1_24 := hB24.cell (k := 1) rfl
      have cJ0_24 := hJ24.cell (k := 0) rfl
      have cJ1_24 := hJ24.cell (k := 1) rfl
      have cM0_24 := hM24.cell (k := 0) rfl
      have cM1_24 := hM24.cell (k := 1) rfl
      have cX0_24 := hX24.cell (k := 0) rfl
      have cX1_24 := hX24.cell (k := 1) rfl
      have cW0_24 := hW24.cell (k := 0) rfl
      have cW1_24 := hW24.cell (k := 1) rfl
      have cY0_24 := hY24.cell (k := 0) rfl
      have cY1_24 := hY24.cell (k := 1) rfl
      clear hT23 hE23 hbl23 hA23 cA0_23 cA1_23 hB23 cB0_23 cB1_23 hJ23 cJ0_23 cJ1_23 hM23 cM0_23 cM1_23 hX23 cX0_23 cX1_23 hW23 cW0_23 cW1_23 hY23 cY0_23 cY1_23 hb24
      go_wp2_with fail
      go_ret
      exact ⟨rfl, hbl24⟩
    | false =>
      have hbw20 := hbl20
      have nW : BoxN (World.alloc w20 (.cells #[.int .i64 p, .int .i64 m] 28)) (w20.heap.size) 28 #[.int .i64 p, .int .i64 m] := by have := BoxN.new w20 28 #[.int .i64 p, .int .i64 m]; simpa using this
      have hb21 : Below w20.heap.size w20 (World.alloc w20 (.cells #[.int .i64 p, .int .i64 m] 28)) := ((Below.refl _ w20).alloc (by simp) (.cells #[.int .i64 p, .int .i64 m] 28))
      have hT21 := hT20.next hb21
      have hE21 := hE20.next hb21
      have hbl21 := hbl20.trans (hb21.mono hbl20.size)
      have hA21 := hA20.all hb21
      have hB21 := hB20.all hb21
      have hJ21 := hJ20.all hb21
      have hM21 := hM20.all hb21
      have hX21 := hX20.all hb21
      have hW21 := nW
      have lA21 := hA20.lt
      have lB21 := hB20.lt
      have lJ21 := hJ20.lt
      have lM21 := hM20.lt
      have lX21 := hX20.lt
      have cA0_21 := hA21.cell (k := 0) rfl
      have cA1_21 := hA21.cell (k := 1) rfl
      have cB0_21 := hB21.cell (k := 0) rfl
      have cB1_21 := hB21.cell (k := 1) rfl
      have cJ0_21 := hJ21.cell (k := 0) rfl
      have cJ1_21 := hJ21.cell (k := 1) rfl
      have cM0_21 := hM21.cell (k := 0) rfl
      have cM1_21 := hM21.cell (k := 1) rfl
      have cX0_21 := hX21.cell (k := 0) rfl
      have cX1_21 := hX21.cell (k := 1) rfl
      have cW0_21 := hW21.cell (k := 0) rfl
      have cW1_21 := hW21.cell (k := 1) rfl
      clear hT20 hE20 hbl20 hA20 cA0_20 cA1_20 hB20 cB0_20 cB1_20 hJ20 cJ0_20 cJ1_20 hM20 cM0_20 cM1_20 hX20 cX0_20 cX1_20 hb21 nW
      go_wp2_with fail
      generalize World.alloc w20 (.cells #[.int .i64 p, .int .i64 m] 28) = w21 at *
      with_reducible refine (L_parse (p := p) (m := m) (o := false) (k := 2) hstr Hx.out rfl).mono ?_
      rintro e w22 ⟨rfl, hb22⟩
      have hT22 := hT21.next hb22
      have hE22 := hE21.next hb22
      have hbl22 := hbl21.trans (hb22.mono hbl21.size)
      have hA22 := hA21.all hb22
      have hB22 := hB21.all hb22
      have hJ22 := hJ21.all hb22
      have hM22 := hM21.all hb22
      have hX22 := hX21.all hb22
      have hW22 := hW21.all hb22
      have cA0_22 := hA22.cell (k := 0) rfl
      have cA1_22 := hA22.cell (k := 1) rfl
      have cB0_22 := hB22.cell (k := 0) rfl
      have cB1_22 := hB22.cell (k := 1) rfl
      have cJ0_22 := hJ22.cell (k := 0) rfl
      have cJ1_22 := hJ22.cell (k := 1) rfl
      have cM0_22 := hM22.cell (k := 0) rfl
      have cM1_22 := hM22.cell (k := 1) rfl
      have cX0_22 := hX22.cell (k := 0) rfl
      have cX1_22 := hX22.cell (k := 1) rfl
      have cW0_22 := hW22.cell (k := 0) rfl
      have cW1_22 := hW22.cell (k := 1) rfl
      clear hT21 hE21 hbl21 hA21 cA0_21 cA1_21 hB21 cB0_21 cB1_21 hJ21 cJ0_21 cJ1_21 hM21 cM0_21 cM1_21 hX21 cX0_21 cX1_21 hW21 cW0_21 cW1_21 hb22
      have nY : BoxN (World.alloc w22 (.cells #[.int .i64 p, .int .i64 m] 28)) (w22.heap.size) 28 #[.int .i64 p, .int .i64 m] := by have := BoxN.new w22 28 #[.int .i64 p, .int .i64 m]; simpa using this
      have hb23 : Below w22.heap.size w22 (World.alloc w22 (.cells #[.int .i64 p, .int .i64 m] 28)) := ((Below.refl _ w22).alloc (by simp) (.cells #[.int .i64 p, .int .i64 m] 28))
      have hT23 := hT22.next hb23
      have hE23 := hE22.next hb23
      have hbl23 := hbl22.trans (hb23.mono hbl22.size)
      have hA23 := hA22.all hb23
      have hB23 := hB22.all hb23
      have hJ23 := hJ22.all hb23
      have hM23 := hM22.all hb23
      have hX23 := hX22.all hb23
      have hW23 := hW22.all hb23
      have hY23 := nY
      have lA23 := hA22.lt
      have lB23 := hB22.lt
      have lJ23 := hJ22.lt
      have lM23 := hM22.lt
      have lX23 := hX22.lt
      have lW23 := hW22.lt
      have cA0_23 := hA23.cell (k := 0) rfl
      have cA1_23 := hA23.cell (k := 1) rfl
      have cB0_23 := hB23.cell (k := 0) rfl
      have cB1_23 := hB23.cell (k := 1) rfl
      have cJ0_23 := hJ23.cell (k := 0) rfl
      have cJ1_23 := hJ23.cell (k := 1) rfl
      have cM0_23 := hM23.cell (k := 0) rfl
      have cM1_23 := hM23.cell (k := 1) rfl
      have cX0_23 := hX23.cell (k := 0) rfl
      have cX1_23 := hX23.cell (k := 1) rfl
      have cW0_23 := hW23.cell (k := 0) rfl
      have cW1_23 := hW23.cell (k := 1) rfl
      have cY0_23 := hY23.cell (k := 0) rfl
      have cY1_23 := hY23.cell (k := 1) rfl
      clear hT22 hE22 hbl22 hA22 cA0_22 cA1_22 hB22 cB0_22 cB1_22 hJ22 cJ0_22 cJ1_22 hM22 cM0_22 cM1_22 hX22 cX0_22 cX1_22 hW22 cW0_22 cW1_22 hb23 nY
      go_wp2_with fail
      generalize World.alloc w22 (.cells #[.int .i64 p, .int .i64 m] 28) = w23 at *
      with_reducible refine (L_err (k := 2) (z := 2) hE23 rfl).mono ?_
      rintro e w24 ⟨rfl, hb24⟩
      have hT24 := hT23.next hb24
      have hE24 := hE23.next hb24
      have hbl24 := hbl23.trans (hb24.mono hbl23.size)
      have hA24 := hA23.all hb24
      have hB24 := hB23.all hb24
      have hJ24 := hJ23.all hb24
      have hM24 := hM23.all hb24
      have hX24 := hX23.all hb24
      have hW24 := hW23.all hb24
      have hY24 := hY23.all hb24
      have cA0_24 := hA24.cell (k := 0) rfl
      have cA1_24 := hA24.cell (k := 1) rfl
      have cB0_24 := hB24.cell (k := 0) rfl
      have cB1_24 := hB24.cell (k := 1) rfl
      have cJ0_24 := hJ24.cell (k := 0) rfl
      have cJ1_24 := hJ24.cell (k := 1) rfl
      have cM0_24 := hM24.cell (k := 0) rfl
      have cM1_24 := hM24.cell (k := 1) rfl
      have cX0_24 := hX24.cell (k := 0) rfl
      have cX1_24 := hX24.cell (k := 1) rfl
      have cW0_24 := hW24.cell (k := 0) rfl
      have cW1_24 := hW24.cell (k := 1) rfl
      have cY0_24 := hY24.cell (k := 0) rfl
      have cY1_24 := hY24.cell (k := 1) rfl
      clear hT23 hE23 hbl23 hA23 cA0_23 cA1_23 hB23 cB0_23 cB1_23 hJ23 cJ0_23 cJ1_23 hM23 cM0_23 cM1_23 hX23 cX0_23 cX1_23 hW23 cW0_23 cW1_23 hY23 cY0_23 cY1_23 hb24
      go_wp2_with fail
      go_ret
      exact ⟨rfl, hbl24⟩

set_option maxHeartbeats 8000000 in
theorem LabelSays_first (v s v' s' : Int) (str : ByteArray) (h : ¬ labOk v s) (hstr : str.size < 2 ^ 48) (w : World) (hT : Tab w) (hE : ErrT w) :
    Calls Tryd.prog 4 #[.agg #[.int .i64 v, .int .i64 s], .agg #[.int .i64 v', .int .i64 s'], .string str] w fun e w' => e = .returned (.bool true) ∧ Below w.heap.size w w' := by
  have Hno := Lib.hid h
  have Hbad := Lib.hid (show ¬ (labOk v s ∧ labOk v' s') from fun e => h e.1)
  clear h
  obtain ⟨p, m, o, hx⟩ : ∃ p m o, textV str.data.toList = (p, m, o) := ⟨_, _, _, rfl⟩
  have Hx := Lib.hid hx
  clear hx
  go_enter Tryd.func4, Tryd.ntmps4
  go_wp2_with fail
  have hA0 : BoxN ((w.alloc (.cells #[.int .i64 v, .int .i64 s] 28)).alloc (.cells #[.int .i64 v', .int .i64 s'] 28)) w.heap.size 28 #[.int .i64 v, .int .i64 s] := (BoxN.new w _ _).alloc _
  have hB0 : BoxN ((w.alloc (.cells #[.int .i64 v, .int .i64 s] 28)).alloc (.cells #[.int .i64 v', .int .i64 s'] 28)) (w.heap.size + 1) 28 #[.int .i64 v', .int .i64 s'] := by
    have := BoxN.new (w.alloc (.cells #[.int .i64 v, .int .i64 s] 28)) 28 #[.int .i64 v', .int .i64 s']
    simpa using this
  have hbl0 : Below w.heap.size w ((w.alloc (.cells #[.int .i64 v, .int .i64 s] 28)).alloc (.cells #[.int .i64 v', .int .i64 s'] 28)) := ((Below.refl _ w).alloc (Nat.le_refl _) _).alloc (by simp) _
  have hT0 := hT.next hbl0
  have hE0 := hE.next hbl0
  generalize (w.alloc (.cells #[.int .i64 v, .int .i64 s] 28)).alloc (.cells #[.int .i64 v', .int .i64 s'] 28) = w0 at *
  have cA0_0 := hA0.cell (k := 0) rfl
  have cA1_0 := hA0.cell (k := 1) rfl
  have cB0_0 := hB0.cell (k := 0) rfl
  have cB1_0 := hB0.cell (k := 1) rfl
  go_wp2_with fail
  with_reducible refine (L_rlabel (r := 1) (if_neg Hno.out) rfl).mono ?_
  rintro e w1 ⟨rfl, hb1⟩
  have hT1 := hT0.next hb1
  have hE1 := hE0.next hb1
  have hbl1 := hbl0.trans (hb1.mono hbl0.size)
  have hA1 := hA0.all hb1
  have hB1 := hB0.all hb1
  have cA0_1 := hA1.cell (k := 0) rfl
  have cA1_1 := hA1.cell (k := 1) rfl
  have cB0_1 := hB1.cell (k := 0) rfl
  have cB1_1 := hB1.cell (k := 1) rfl
  clear hT0 hE0 hbl0 hA0 cA0_0 cA1_0 hB0 cB0_0 cB1_0 hb1
  go_wp2_with fail
  with_reducible refine (L_check_bad Hno.out).mono ?_
  rintro e w2 ⟨rfl, hb2⟩
  have hT2 := hT1.next hb2
  have hE2 := hE1.next hb2
  have hbl2 := hbl1.trans (hb2.mono hbl1.size)
  have hA2 := hA1.all hb2
  have hB2 := hB1.all hb2
  have cA0_2 := hA2.cell (k := 0) rfl
  have cA1_2 := hA2.cell (k := 1) rfl
  have cB0_2 := hB2.cell (k := 0) rfl
  have cB1_2 := hB2.cell (k := 1) rfl
  clear hT1 hE1 hbl1 hA1 cA0_1 cA1_1 hB1 cB0_1 cB1_1 hb2
  go_wp2_with fail
  with_reducible refine (L_err (k := 1) (z := 1) hE2 rfl).mono ?_
  rintro e w3 ⟨rfl, hb3⟩
  have hT3 := hT2.next hb3
  have hE3 := hE2.next hb3
  have hbl3 := hbl2.trans (hb3.mono hbl2.size)
  have hA3 := hA2.all hb3
  have hB3 := hB2.all hb3
  have cA0_3 := hA3.cell (k := 0) rfl
  have cA1_3 := hA3.cell (k := 1) rfl
  have cB0_3 := hB3.cell (k := 0) rfl
  have cB1_3 := hB3.cell (k := 1) rfl
  clear hT2 hE2 hbl2 hA2 cA0_2 cA1_2 hB2 cB0_2 cB1_2 hb3
  go_wp2_with fail
  with_reducible refine (L_write_bad Hno.out).mono ?_
  rintro e w4 ⟨rfl, hb4⟩
  have hT4 := hT3.next hb4
  have hE4 := hE3.next hb4
  have hbl4 := hbl3.trans (hb4.mono hbl3.size)
  have hA4 := hA3.all hb4
  have hB4 := hB3.all hb4
  have cA0_4 := hA4.cell (k := 0) rfl
  have cA1_4 := hA4.cell (k := 1) rfl
  have cB0_4 := hB4.cell (k := 0) rfl
  have cB1_4 := hB4.cell (k := 1) rfl
  clear hT3 hE3 hbl3 hA3 cA0_3 cA1_3 hB3 cB0_3 cB1_3 hb4
  go_wp2_with fail
  with_reducible refine (L_err (k := 1) (z := 1) hE4 rfl).mono ?_
  rintro e w5 ⟨rfl, hb5⟩
  have hT5 := hT4.next hb5
  have hE5 := hE4.next hb5
  have hbl5 := hbl4.trans (hb5.mono hbl4.size)
  have hA5 := hA4.all hb5
  have hB5 := hB4.all hb5
  have cA0_5 := hA5.cell (k := 0) rfl
  have cA1_5 := hA5.cell (k := 1) rfl
  have cB0_5 := hB5.cell (k := 0) rfl
  have cB1_5 := hB5.cell (k := 1) rfl
  clear hT4 hE4 hbl4 hA4 cA0_4 cA1_4 hB4 cB0_4 cB1_4 hb5
  have nJ : BoxN (World.alloc w5 (.cells #[.int .i64 0, .int .i64 0] 28)) (w5.heap.size) 28 #[.int .i64 0, .int .i64 0] := by have := BoxN.new w5 28 #[.int .i64 0, .int .i64 0]; simpa using this
  have nM : BoxN (World.alloc (World.alloc w5 (.cells #[.int .i64 0, .int .i64 0] 28)) (.cells #[.int .i64 0, .int .i64 0] 28)) (w5.heap.size + 1) 28 #[.int .i64 0, .int .i64 0] := by have := BoxN.new (World.alloc w5 (.cells #[.int .i64 0, .int .i64 0] 28)) 28 #[.int .i64 0, .int .i64 0]; simpa using this
  have hb6 : Below w5.heap.size w5 (World.alloc (World.alloc w5 (.cells #[.int .i64 0, .int .i64 0] 28)) (.cells #[.int .i64 0, .int .i64 0] 28)) := (((Below.refl _ w5).alloc (by simp) (.cells #[.int .i64 0, .int .i64 0] 28)).alloc (by simp) (.cells #[.int .i64 0, .int .i64 0] 28))
  have hT6 := hT5.next hb6
  have hE6 := hE5.next hb6
  have hbl6 := hbl5.trans (hb6.mono hbl5.size)
  have hA6 := hA5.all hb6
  have hB6 := hB5.all hb6
  have hJ6 := (nJ.alloc (.cells #[.int .i64 0, .int .i64 0] 28))
  have hM6 := nM
  have lA6 := hA5.lt
  have lB6 := hB5.lt
  have cA0_6 := hA6.cell (k := 0) rfl
  have cA1_6 := hA6.cell (k := 1) rfl
  have cB0_6 := hB6.cell (k := 0) rfl
  have cB1_6 := hB6.cell (k := 1) rfl
  have cJ0_6 := hJ6.cell (k := 0) rfl
  have cJ1_6 := hJ6.cell (k := 1) rfl
  have cM0_6 := hM6.cell (k := 0) rfl
  have cM1_6 := hM6.cell (k := 1) rfl
  clear hT5 hE5 hbl5 hA5 cA0_5 cA1_5 hB5 cB0_5 cB1_5 hb6 nJ nM
  go_wp2_with fail
  generalize World.alloc (World.alloc w5 (.cells #[.int .i64 0, .int .i64 0] 28)) (.cells #[.int .i64 0, .int .i64 0] 28) = w6 at *
  with_reducible refine (L_below_bad Hbad.out).mono ?_
  rintro e w7 ⟨rfl, hb7⟩
  have hT7 := hT6.next hb7
  have hE7 := hE6.next hb7
  have hbl7 := hbl6.trans (hb7.mono hbl6.size)
  have hA7 := hA6.all hb7
  have hB7 := hB6.all hb7
  have hJ7 := hJ6.all hb7
  have hM7 := hM6.all hb7
  have cA0_7 := hA7.cell (k := 0) rfl
  have cA1_7 := hA7.cell (k := 1) rfl
  have cB0_7 := hB7.cell (k := 0) rfl
  have cB1_7 := hB7.cell (k := 1) rfl
  have cJ0_7 := hJ7.cell (k := 0) rfl
  have cJ1_7 := hJ7.cell (k := 1) rfl
  have cM0_7 := hM7.cell (k := 0) rfl
  have cM1_7 := hM7.cell (k := 1) rfl
  clear hT6 hE6 hbl6 hA6 cA0_6 cA1_6 hB6 cB0_6 cB1_6 hJ6 cJ0_6 cJ1_6 hM6 cM0_6 cM1_6 hb7
  go_wp2_with fail
  with_reducible refine (L_err (k := 1) (z := 1) hE7 rfl).mono ?_
  rintro e w8 ⟨rfl, hb8⟩
  have hT8 := hT7.next hb8
  have hE8 := hE7.next hb8
  have hbl8 := hbl7.trans (hb8.mono hbl7.size)
  have hA8 := hA7.all hb8
  have hB8 := hB7.all hb8
  have hJ8 := hJ7.all hb8
  have hM8 := hM7.all hb8
  have cA0_8 := hA8.cell (k := 0) rfl
  have cA1_8 := hA8.cell (k := 1) rfl
  have cB0_8 := hB8.cell (k := 0) rfl
  have cB1_8 := hB8.cell (k := 1) rfl
  have cJ0_8 := hJ8.cell (k := 0) rfl
  have cJ1_8 := hJ8.cell (k := 1) rfl
  have cM0_8 := hM8.cell (k := 0) rfl
  have cM1_8 := hM8.cell (k := 1) rfl
  clear hT7 hE7 hbl7 hA7 cA0_7 cA1_7 hB7 cB0_7 cB1_7 hJ7 cJ0_7 cJ1_7 hM7 cM0_7 cM1_7 hb8
  go_wp2_with fail
  with_reducible refine (L_join_bad Hbad.out).mono ?_
  rintro e w9 ⟨rfl, hb9⟩
  have hT9 := hT8.next hb9
  have hE9 := hE8.next hb9
  have hbl9 := hbl8.trans (hb9.mono hbl8.size)
  have hA9 := hA8.all hb9
  have hB9 := hB8.all hb9
  have hJ9 := hJ8.all hb9
  have hM9 := hM8.all hb9
  have cA0_9 := hA9.cell (k := 0) rfl
  have cA1_9 := hA9.cell (k := 1) rfl
  have cB0_9 := hB9.cell (k := 0) rfl
  have cB1_9 := hB9.cell (k := 1) rfl
  have cJ0_9 := hJ9.cell (k := 0) rfl
  have cJ1_9 := hJ9.cell (k := 1) rfl
  have cM0_9 := hM9.cell (k := 0) rfl
  have cM1_9 := hM9.cell (k := 1) rfl
  clear hT8 hE8 hbl8 hA8 cA0_8 cA1_8 hB8 cB0_8 cB1_8 hJ8 cJ0_8 cJ1_8 hM8 cM0_8 cM1_8 hb9
  have nX : BoxN (World.alloc w9 (.cells #[.int .i64 0, .int .i64 0] 28)) (w9.heap.size) 28 #[.int .i64 0, .int .i64 0] := by have := BoxN.new w9 28 #[.int .i64 0, .int .i64 0]; simpa using this
  have hb10 : Below w9.heap.size w9 (World.alloc w9 (.cells #[.int .i64 0, .int .i64 0] 28)) := ((Below.refl _ w9).alloc (by simp) (.cells #[.int .i64 0, .int .i64 0] 28))
  have hT10 := hT9.next hb10
  have hE10 := hE9.next hb10
  have hbl10 := hbl9.trans (hb10.mono hbl9.size)
  have hA10 := hA9.all hb10
  have hB10 := hB9.all hb10
  have hJ10 := hJ9.all hb10
  have hM10 := hM9.all hb10
  have hX10 := nX
  have lA10 := hA9.lt
  have lB10 := hB9.lt
  have lJ10 := hJ9.lt
  have lM10 := hM9.lt
  have cA0_10 := hA10.cell (k := 0) rfl
  have cA1_10 := hA10.cell (k := 1) rfl
  have cB0_10 := hB10.cell (k := 0) rfl
  have cB1_10 := hB10.cell (k := 1) rfl
  have cJ0_10 := hJ10.cell (k := 0) rfl
  have cJ1_10 := hJ10.cell (k := 1) rfl
  have cM0_10 := hM10.cell (k := 0) rfl
  have cM1_10 := hM10.cell (k := 1) rfl
  have cX0_10 := hX10.cell (k := 0) rfl
  have cX1_10 := hX10.cell (k := 1) rfl
  clear hT9 hE9 hbl9 hA9 cA0_9 cA1_9 hB9 cB0_9 cB1_9 hJ9 cJ0_9 cJ1_9 hM9 cM0_9 cM1_9 hb10 nX
  go_wp2_with fail
  generalize World.alloc w9 (.cells #[.int .i64 0, .int .i64 0] 28) = w10 at *
  with_reducible refine (L_err (k := 1) (z := 1) hE10 rfl).mono ?_
  rintro e w11 ⟨rfl, hb11⟩
  have hT11 := hT10.next hb11
  have hE11 := hE10.next hb11
  have hbl11 := hbl10.trans (hb11.mono hbl10.size)
  have hA11 := hA10.all hb11
  have hB11 := hB10.all hb11
  have hJ11 := hJ10.all hb11
  have hM11 := hM10.all hb11
  have hX11 := hX10.all hb11
  have cA0_11 := hA11.cell (k := 0) rfl
  have cA1_11 := hA11.cell (k := 1) rfl
  have cB0_11 := hB11.cell (k := 0) rfl
  have cB1_11 := hB11.cell (k := 1) rfl
  have cJ0_11 := hJ11.cell (k := 0) rfl
  have cJ1_11 := hJ11.cell (k := 1) rfl
  have cM0_11 := hM11.cell (k := 0) rfl
  have cM1_11 := hM11.cell (k := 1) rfl
  have cX0_11 := hX11.cell (k := 0) rfl
  have cX1_11 := hX11.cell (k := 1) rfl
  clear hT10 hE10 hbl10 hA10 cA0_10 cA1_10 hB10 cB0_10 cB1_10 hJ10 cJ0_10 cJ1_10 hM10 cM0_10 cM1_10 hX10 cX0_10 cX1_10 hb11
  go_wp2_with fail
  with_reducible refine (L_meet_bad Hbad.out).mono ?_
  rintro e w12 ⟨rfl, hb12⟩
  have hT12 := hT11.next hb12
  have hE12 := hE11.next hb12
  have hbl12 := hbl11.trans (hb12.mono hbl11.size)
  have hA12 := hA11.all hb12
  have hB12 := hB11.all hb12
  have hJ12 := hJ11.all hb12
  have hM12 := hM11.all hb12
  have hX12 := hX11.all hb12
  have cA0_12 := hA12.cell (k := 0) rfl
  have cA1_12 := hA12.cell (k := 1) rfl
  have cB0_12 := hB12.cell (k := 0) rfl
  have cB1_12 := hB12.cell (k := 1) rfl
  have cJ0_12 := hJ12.cell (k := 0) rfl
  have cJ1_12 := hJ12.cell (k := 1) rfl
  have cM0_12 := hM12.cell (k := 0) rfl
  have cM1_12 := hM12.cell (k := 1) rfl
  have cX0_12 := hX12.cell (k := 0) rfl
  have cX1_12 := hX12.cell (k := 1) rfl
  clear hT11 hE11 hbl11 hA11 cA0_11 cA1_11 hB11 cB0_11 cB1_11 hJ11 cJ0_11 cJ1_11 hM11 cM0_11 cM1_11 hX11 cX0_11 cX1_11 hb12
  have fX0_12 := hX12.free 0
  have fX1_12 := hX12.free 1
  have hA13_1 : BoxN (World.setCell w12 ⟨w9.heap.size, 0, none⟩ (.int .i64 0)) (w.heap.size) _ _ := (hA12.other (a := ⟨w9.heap.size, 0, none⟩) (by show w.heap.size ≠ w9.heap.size; omega) (.int .i64 0))
  have hB13_1 : BoxN (World.setCell w12 ⟨w9.heap.size, 0, none⟩ (.int .i64 0)) (w.heap.size + 1) _ _ := (hB12.other (a := ⟨w9.heap.size, 0, none⟩) (by show w.heap.size + 1 ≠ w9.heap.size; omega) (.int .i64 0))
  have hJ13_1 : BoxN (World.setCell w12 ⟨w9.heap.size, 0, none⟩ (.int .i64 0)) (w5.heap.size) _ _ := (hJ12.other (a := ⟨w9.heap.size, 0, none⟩) (by show w5.heap.size ≠ w9.heap.size; omega) (.int .i64 0))
  have hM13_1 : BoxN (World.setCell w12 ⟨w9.heap.size, 0, none⟩ (.int .i64 0)) (w5.heap.size + 1) _ _ := (hM12.other (a := ⟨w9.heap.size, 0, none⟩) (by show w5.heap.size + 1 ≠ w9.heap.size; omega) (.int .i64 0))
  have hX13_1 : BoxN (World.setCell w12 ⟨w9.heap.size, 0, none⟩ (.int .i64 0)) (w9.heap.size) _ _ := (hX12.set 0 (.int .i64 0))
  simp only [List.setIfInBounds_toArray, List.set_cons_succ, List.set_cons_zero] at hA13_1 hB13_1 hJ13_1 hM13_1 hX13_1
  have cA0_13_1 := hA13_1.cell (k := 0) rfl
  have cA1_13_1 := hA13_1.cell (k := 1) rfl
  have fA0_13_1 := hA13_1.free 0
  have fA1_13_1 := hA13_1.free 1
  have cB0_13_1 := hB13_1.cell (k := 0) rfl
  have cB1_13_1 := hB13_1.cell (k := 1) rfl
  have fB0_13_1 := hB13_1.free 0
  have fB1_13_1 := hB13_1.free 1
  have cJ0_13_1 := hJ13_1.cell (k := 0) rfl
  have cJ1_13_1 := hJ13_1.cell (k := 1) rfl
  have fJ0_13_1 := hJ13_1.free 0
  have fJ1_13_1 := hJ13_1.free 1
  have cM0_13_1 := hM13_1.cell (k := 0) rfl
  have cM1_13_1 := hM13_1.cell (k := 1) rfl
  have fM0_13_1 := hM13_1.free 0
  have fM1_13_1 := hM13_1.free 1
  have cX0_13_1 := hX13_1.cell (k := 0) rfl
  have cX1_13_1 := hX13_1.cell (k := 1) rfl
  have fX0_13_1 := hX13_1.free 0
  have fX1_13_1 := hX13_1.free 1
  have hg13 : Below w.heap.size w12 (World.setCell (World.setCell w12 ⟨w9.heap.size, 0, none⟩ (.int .i64 0)) ⟨w9.heap.size, 1, none⟩ (.int .i64 0)) := (((Below.refl w.heap.size w12).setCell (p := ⟨w9.heap.size, 0, none⟩) (by show w.heap.size ≤ w9.heap.size; omega) (.int .i64 0)).setCell (p := ⟨w9.heap.size, 1, none⟩) (by show w.heap.size ≤ w9.heap.size; omega) (.int .i64 0))
  have hbl13 := hbl12.trans hg13
  have hT13 := hT.next hbl13
  have hE13 := hE.next hbl13
  have hA13 : BoxN (World.setCell (World.setCell w12 ⟨w9.heap.size, 0, none⟩ (.int .i64 0)) ⟨w9.heap.size, 1, none⟩ (.int .i64 0)) (w.heap.size) _ _ := ((hA12.other (a := ⟨w9.heap.size, 0, none⟩) (by show w.heap.size ≠ w9.heap.size; omega) (.int .i64 0)).other (a := ⟨w9.heap.size, 1, none⟩) (by show w.heap.size ≠ w9.heap.size; omega) (.int .i64 0))
  have hB13 : BoxN (World.setCell (World.setCell w12 ⟨w9.heap.size, 0, none⟩ (.int .i64 0)) ⟨w9.heap.size, 1, none⟩ (.int .i64 0)) (w.heap.size + 1) _ _ := ((hB12.other (a := ⟨w9.heap.size, 0, none⟩) (by show w.heap.size + 1 ≠ w9.heap.size; omega) (.int .i64 0)).other (a := ⟨w9.heap.size, 1, none⟩) (by show w.heap.size + 1 ≠ w9.heap.size; omega) (.int .i64 0))
  have hJ13 : BoxN (World.setCell (World.setCell w12 ⟨w9.heap.size, 0, none⟩ (.int .i64 0)) ⟨w9.heap.size, 1, none⟩ (.int .i64 0)) (w5.heap.size) _ _ := ((hJ12.other (a := ⟨w9.heap.size, 0, none⟩) (by show w5.heap.size ≠ w9.heap.size; omega) (.int .i64 0)).other (a := ⟨w9.heap.size, 1, none⟩) (by show w5.heap.size ≠ w9.heap.size; omega) (.int .i64 0))
  have hM13 : BoxN (World.setCell (World.setCell w12 ⟨w9.heap.size, 0, none⟩ (.int .i64 0)) ⟨w9.heap.size, 1, none⟩ (.int .i64 0)) (w5.heap.size + 1) _ _ := ((hM12.other (a := ⟨w9.heap.size, 0, none⟩) (by show w5.heap.size + 1 ≠ w9.heap.size; omega) (.int .i64 0)).other (a := ⟨w9.heap.size, 1, none⟩) (by show w5.heap.size + 1 ≠ w9.heap.size; omega) (.int .i64 0))
  have hX13 : BoxN (World.setCell (World.setCell w12 ⟨w9.heap.size, 0, none⟩ (.int .i64 0)) ⟨w9.heap.size, 1, none⟩ (.int .i64 0)) (w9.heap.size) _ _ := ((hX12.set 0 (.int .i64 0)).set 1 (.int .i64 0))
  simp only [List.setIfInBounds_toArray, List.set_cons_succ, List.set_cons_zero] at hA13 hB13 hJ13 hM13 hX13
  have cA0_13 := hA13.cell (k := 0) rfl
  have cA1_13 := hA13.cell (k := 1) rfl
  have cB0_13 := hB13.cell (k := 0) rfl
  have cB1_13 := hB13.cell (k := 1) rfl
  have cJ0_13 := hJ13.cell (k := 0) rfl
  have cJ1_13 := hJ13.cell (k := 1) rfl
  have cM0_13 := hM13.cell (k := 0) rfl
  have cM1_13 := hM13.cell (k := 1) rfl
  have cX0_13 := hX13.cell (k := 0) rfl
  have cX1_13 := hX13.cell (k := 1) rfl
  go_wp2_with fail
  clear hT12 hE12 hbl12 hA12 cA0_12 cA1_12 hB12 cB0_12 cB1_12 hJ12 cJ0_12 cJ1_12 hM12 cM0_12 cM1_12 hX12 cX0_12 cX1_12 hg13 hA13_1 cA0_13_1 cA1_13_1 fA0_13_1 fA1_13_1 hB13_1 cB0_13_1 cB1_13_1 fB0_13_1 fB1_13_1 hJ13_1 cJ0_13_1 cJ1_13_1 fJ0_13_1 fJ1_13_1 hM13_1 cM0_13_1 cM1_13_1 fM0_13_1 fM1_13_1 hX13_1 cX0_13_1 cX1_13_1 fX0_13_1 fX1_13_1
  generalize (World.setCell (World.setCell w12 ⟨w9.heap.size, 0, none⟩ (.int .i64 0)) ⟨w9.heap.size, 1, none⟩ (.int .i64 0)) = w13 at *
  with_reducible refine (L_err (k := 1) (z := 1) hE13 rfl).mono ?_
  rintro e w14 ⟨rfl, hb14⟩
  have hT14 := hT13.next hb14
  have hE14 := hE13.next hb14
  have hbl14 := hbl13.trans (hb14.mono hbl13.size)
  have hA14 := hA13.all hb14
  have hB14 := hB13.all hb14
  have hJ14 := hJ13.all hb14
  have hM14 := hM13.all hb14
  have hX14 := hX13.all hb14
  have cA0_14 := hA14.cell (k := 0) rfl
  have cA1_14 := hA14.cell (k := 1) rfl
  have cB0_14 := hB14.cell (k := 0) rfl
  have cB1_14 := hB14.cell (k := 1) rfl
  have cJ0_14 := hJ14.cell (k := 0) rfl
  have cJ1_14 := hJ14.cell (k := 1) rfl
  have cM0_14 := hM14.cell (k := 0) rfl
  have cM1_14 := hM14.cell (k := 1) rfl
  have cX0_14 := hX14.cell (k := 0) rfl
  have cX1_14 := hX14.cell (k := 1) rfl
  clear hT13 hE13 hbl13 hA13 cA0_13 cA1_13 hB13 cB0_13 cB1_13 hJ13 cJ0_13 cJ1_13 hM13 cM0_13 cM1_13 hX13 cX0_13 cX1_13 hb14
  go_wp2_with fail
  with_reducible refine (L_rparse (p := p) (m := m) (o := o) hstr Hx.out).mono ?_
  rintro e w15 ⟨rfl, hb15⟩
  have hT15 := hT14.next hb15
  have hE15 := hE14.next hb15
  have hbl15 := hbl14.trans (hb15.mono hbl14.size)
  have hA15 := hA14.all hb15
  have hB15 := hB14.all hb15
  have hJ15 := hJ14.all hb15
  have hM15 := hM14.all hb15
  have hX15 := hX14.all hb15
  have cA0_15 := hA15.cell (k := 0) rfl
  have cA1_15 := hA15.cell (k := 1) rfl
  have cB0_15 := hB15.cell (k := 0) rfl
  have cB1_15 := hB15.cell (k := 1) rfl
  have cJ0_15 := hJ15.cell (k := 0) rfl
  have cJ1_15 := hJ15.cell (k := 1) rfl
  have cM0_15 := hM15.cell (k := 0) rfl
  have cM1_15 := hM15.cell (k := 1) rfl
  have cX0_15 := hX15.cell (k := 0) rfl
  have cX1_15 := hX15.cell (k := 1) rfl
  clear hT14 hE14 hbl14 hA14 cA0_14 cA1_14 hB14 cB0_14 cB1_14 hJ14 cJ0_14 cJ1_14 hM14 cM0_14 cM1_14 hX14 cX0_14 cX1_14 hb15
  cases o with
  | true =>
    have hbw15 := hbl15
    have nW : BoxN (World.alloc w15 (.cells #[.int .i64 p, .int .i64 m] 28)) (w15.heap.size) 28 #[.int .i64 p, .int .i64 m] := by have := BoxN.new w15 28 #[.int .i64 p, .int .i64 m]; simpa using this
    have hb16 : Below w15.heap.size w15 (World.alloc w15 (.cells #[.int .i64 p, .int .i64 m] 28)) := ((Below.refl _ w15).alloc (by simp) (.cells #[.int .i64 p, .int .i64 m] 28))
    have hT16 := hT15.next hb16
    have hE16 := hE15.next hb16
    have hbl16 := hbl15.trans (hb16.mono hbl15.size)
    have hA16 := hA15.all hb16
    have hB16 := hB15.all hb16
    have hJ16 := hJ15.all hb16
    have hM16 := hM15.all hb16
    have hX16 := hX15.all hb16
    have hW16 := nW
    have lA16 := hA15.lt
    have lB16 := hB15.lt
    have lJ16 := hJ15.lt
    have lM16 := hM15.lt
    have lX16 := hX15.lt
    have cA0_16 := hA16.cell (k := 0) rfl
    have cA1_16 := hA16.cell (k := 1) rfl
    have cB0_16 := hB16.cell (k := 0) rfl
    have cB1_16 := hB16.cell (k := 1) rfl
    have cJ0_16 := hJ16.cell (k := 0) rfl
    have cJ1_16 := hJ16.cell (k := 1) rfl
    have cM0_16 := hM16.cell (k := 0) rfl
    have cM1_16 := hM16.cell (k := 1) rfl
    have cX0_16 := hX16.cell (k := 0) rfl
    have cX1_16 := hX16.cell (k := 1) rfl
    have cW0_16 := hW16.cell (k := 0) rfl
    have cW1_16 := hW16.cell (k := 1) rfl
    clear hT15 hE15 hbl15 hA15 cA0_15 cA1_15 hB15 cB0_15 cB1_15 hJ15 cJ0_15 cJ1_15 hM15 cM0_15 cM1_15 hX15 cX0_15 cX1_15 hb16 nW
    go_wp2_with fail
    generalize World.alloc w15 (.cells #[.int .i64 p, .int .i64 m] 28) = w16 at *
    with_reducible refine (L_parse (p := p) (m := m) (o := true) (k := 0) hstr Hx.out rfl).mono ?_
    rintro e w17 ⟨rfl, hb17⟩
    have hT17 := hT16.next hb17
    have hE17 := hE16.next hb17
    have hbl17 := hbl16.trans (hb17.mono hbl16.size)
    have hA17 := hA16.all hb17
    have hB17 := hB16.all hb17
    have hJ17 := hJ16.all hb17
    have hM17 := hM16.all hb17
    have hX17 := hX16.all hb17
    have hW17 := hW16.all hb17
    have cA0_17 := hA17.cell (k := 0) rfl
    have cA1_17 := hA17.cell (k := 1) rfl
    have cB0_17 := hB17.cell (k := 0) rfl
    have cB1_17 := hB17.cell (k := 1) rfl
    have cJ0_17 := hJ17.cell (k := 0) rfl
    have cJ1_17 := hJ17.cell (k := 1) rfl
    have cM0_17 := hM17.cell (k := 0) rfl
    have cM1_17 := hM17.cell (k := 1) rfl
    have cX0_17 := hX17.cell (k := 0) rfl
    have cX1_17 := hX17.cell (k := 1) rfl
    have cW0_17 := hW17.cell (k := 0) rfl
    have cW1_17 := hW17.cell (k := 1) rfl
    clear hT16 hE16 hbl16 hA16 cA0_16 cA1_16 hB16 cB0_16 cB1_16 hJ16 cJ0_16 cJ1_16 hM16 cM0_16 cM1_16 hX16 cX0_16 cX1_16 hW16 cW0_16 cW1_16 hb17
    have nY : BoxN (World.alloc w17 (.cells #[.int .i64 p, .int .i64 m] 28)) (w17.heap.size) 28 #[.int .i64 p, .int .i64 m] := by have := BoxN.new w17 28 #[.int .i64 p, .int .i64 m]; simpa using this
    have hb18 : Below w17.heap.size w17 (World.alloc w17 (.cells #[.int .i64 p, .int .i64 m] 28)) := ((Below.refl _ w17).alloc (by simp) (.cells #[.int .i64 p, .int .i64 m] 28))
    have hT18 := hT17.next hb18
    have hE18 := hE17.next hb18
    have hbl18 := hbl17.trans (hb18.mono hbl17.size)
    have hA18 := hA17.all hb18
    have hB18 := hB17.all hb18
    have hJ18 := hJ17.all hb18
    have hM18 := hM17.all hb18
    have hX18 := hX17.all hb18
    have hW18 := hW17.all hb18
    have hY18 := nY
    have lA18 := hA17.lt
    have lB18 := hB17.lt
    have lJ18 := hJ17.lt
    have lM18 := hM17.lt
    have lX18 := hX17.lt
    have lW18 := hW17.lt
    have cA0_18 := hA18.cell (k := 0) rfl
    have cA1_18 := hA18.cell (k := 1) rfl
    have cB0_18 := hB18.cell (k := 0) rfl
    have cB1_18 := hB18.cell (k := 1) rfl
    have cJ0_18 := hJ18.cell (k := 0) rfl
    have cJ1_18 := hJ18.cell (k := 1) rfl
    have cM0_18 := hM18.cell (k := 0) rfl
    have cM1_18 := hM18.cell (k := 1) rfl
    have cX0_18 := hX18.cell (k := 0) rfl
    have cX1_18 := hX18.cell (k := 1) rfl
    have cW0_18 := hW18.cell (k := 0) rfl
    have cW1_18 := hW18.cell (k := 1) rfl
    have cY0_18 := hY18.cell (k := 0) rfl
    have cY1_18 := hY18.cell (k := 1) rfl
    clear hT17 hE17 hbl17 hA17 cA0_17 cA1_17 hB17 cB0_17 cB1_17 hJ17 cJ0_17 cJ1_17 hM17 cM0_17 cM1_17 hX17 cX0_17 cX1_17 hW17 cW0_17 cW1_17 hb18 nY
    go_wp2_with fail
    generalize World.alloc w17 (.cells #[.int .i64 p, .int .i64 m] 28) = w18 at *
    with_reducible refine (L_err (k := 0) (z := 0) hE18 rfl).mono ?_
    rintro e w19 ⟨rfl, hb19⟩
    have hT19 := hT18.next hb19
    have hE19 := hE18.next hb19
    have hbl19 := hbl18.trans (hb19.mono hbl18.size)
    have hA19 := hA18.all hb19
    have hB19 := hB18.all hb19
    have hJ19 := hJ18.all hb19
    have hM19 := hM18.all hb19
    have hX19 := hX18.all hb19
    have hW19 := hW18.all hb19
    have hY19 := hY18.all hb19
    have cA0_19 := hA19.cell (k := 0) rfl
    have cA1_19 := hA19.cell (k := 1) rfl
    have cB0_19 := hB19.cell (k := 0) rfl
    have cB1_19 := hB19.cell (k := 1) rfl
    have cJ0_19 := hJ19.cell (k := 0) rfl
    have cJ1_19 := hJ19.cell (k := 1) rfl
    have cM0_19 := hM19.cell (k := 0) rfl
    have cM1_19 := hM19.cell (k := 1) rfl
    have cX0_19 := hX19.cell (k := 0) rfl
    have cX1_19 := hX19.cell (k := 1) rfl
    have cW0_19 := hW19.cell (k := 0) rfl
    have cW1_19 := hW19.cell (k := 1) rfl
    have cY0_19 := hY19.cell (k := 0) rfl
    have cY1_19 := hY19.cell (k := 1) rfl
    clear hT18 hE18 hbl18 hA18 cA0_18 cA1_18 hB18 cB0_18 cB1_18 hJ18 cJ0_18 cJ1_18 hM18 cM0_18 cM1_18 hX18 cX0_18 cX1_18 hW18 cW0_18 cW1_18 hY18 cY0_18 cY1_18 hb19
    go_wp2_with fail
    go_ret
    exact ⟨rfl, hbl19⟩
  | false =>
    have hbw15 := hbl15
    have nW : BoxN (World.alloc w15 (.cells #[.int .i64 p, .int .i64 m] 28)) (w15.heap.size) 28 #[.int .i64 p, .int .i64 m] := by have := BoxN.new w15 28 #[.int .i64 p, .int .i64 m]; simpa using this
    have hb16 : Below w15.heap.size w15 (World.alloc w15 (.cells #[.int .i64 p, .int .i64 m] 28)) := ((Below.refl _ w15).alloc (by simp) (.cells #[.int .i64 p, .int .i64 m] 28))
    have hT16 := hT15.next hb16
    have hE16 := hE15.next hb16
    have hbl16 := hbl15.trans (hb16.mono hbl15.size)
    have hA16 := hA15.all hb16
    have hB16 := hB15.all hb16
    have hJ16 := hJ15.all hb16
    have hM16 := hM15.all hb16
    have hX16 := hX15.all hb16
    have hW16 := nW
    have lA16 := hA15.lt
    have lB16 := hB15.lt
    have lJ16 := hJ15.lt
    have lM16 := hM15.lt
    have lX16 := hX15.lt
    have cA0_16 := hA16.cell (k := 0) rfl
    have cA1_16 := hA16.cell (k := 1) rfl
    have cB0_16 := hB16.cell (k := 0) rfl
    have cB1_16 := hB16.cell (k := 1) rfl
    have cJ0_16 := hJ16.cell (k := 0) rfl
    have cJ1_16 := hJ16.cell (k := 1) rfl
    have cM0_16 := hM16.cell (k := 0) rfl
    have cM1_16 := hM16.cell (k := 1) rfl
    have cX0_16 := hX16.cell (k := 0) rfl
    have cX1_16 := hX16.cell (k := 1) rfl
    have cW0_16 := hW16.cell (k := 0) rfl
    have cW1_16 := hW16.cell (k := 1) rfl
    clear hT15 hE15 hbl15 hA15 cA0_15 cA1_15 hB15 cB0_15 cB1_15 hJ15 cJ0_15 cJ1_15 hM15 cM0_15 cM1_15 hX15 cX0_15 cX1_15 hb16 nW
    go_wp2_with fail
    generalize World.alloc w15 (.cells #[.int .i64 p, .int .i64 m] 28) = w16 at *
    with_reducible refine (L_parse (p := p) (m := m) (o := false) (k := 2) hstr Hx.out rfl).mono ?_
    rintro e w17 ⟨rfl, hb17⟩
    have hT17 := hT16.next hb17
    have hE17 := hE16.next hb17
    have hbl17 := hbl16.trans (hb17.mono hbl16.size)
    have hA17 := hA16.all hb17
    have hB17 := hB16.all hb17
    have hJ17 := hJ16.all hb17
    have hM17 := hM16.all hb17
    have hX17 := hX16.all hb17
    have hW17 := hW16.all hb17
    have cA0_17 := hA17.cell (k := 0) rfl
    have cA1_17 := hA17.cell (k := 1) rfl
    have cB0_17 := hB17.cell (k := 0) rfl
    have cB1_17 := hB17.cell (k := 1) rfl
    have cJ0_17 := hJ17.cell (k := 0) rfl
    have cJ1_17 := hJ17.cell (k := 1) rfl
    have cM0_17 := hM17.cell (k := 0) rfl
    have cM1_17 := hM17.cell (k := 1) rfl
    have cX0_17 := hX17.cell (k := 0) rfl
    have cX1_17 := hX17.cell (k := 1) rfl
    have cW0_17 := hW17.cell (k := 0) rfl
    have cW1_17 := hW17.cell (k := 1) rfl
    clear hT16 hE16 hbl16 hA16 cA0_16 cA1_16 hB16 cB0_16 cB1_16 hJ16 cJ0_16 cJ1_16 hM16 cM0_16 cM1_16 hX16 cX0_16 cX1_16 hW16 cW0_16 cW1_16 hb17
    have nY : BoxN (World.alloc w17 (.cells #[.int .i64 p, .int .i64 m] 28)) (w17.heap.size) 28 #[.int .i64 p, .int .i64 m] := by have := BoxN.new w17 28 #[.int .i64 p, .int .i64 m]; simpa using this
    have hb18 : Below w17.heap.size w17 (World.alloc w17 (.cells #[.int .i64 p, .int .i64 m] 28)) := ((Below.refl _ w17).alloc (by simp) (.cells #[.int .i64 p, .int .i64 m] 28))
    have hT18 := hT17.next hb18
    have hE18 := hE17.next hb18
    have hbl18 := hbl17.trans (hb18.mono hbl17.size)
    have hA18 := hA17.all hb18
    have hB18 := hB17.all hb18
    have hJ18 := hJ17.all hb18
    have hM18 := hM17.all hb18
    have hX18 := hX17.all hb18
    have hW18 := hW17.all hb18
    have hY18 := nY
    have lA18 := hA17.lt
    have lB18 := hB17.lt
    have lJ18 := hJ17.lt
    have lM18 := hM17.lt
    have lX18 := hX17.lt
    have lW18 := hW17.lt
    have cA0_18 := hA18.cell (k := 0) rfl
    have cA1_18 := hA18.cell (k := 1) rfl
    have cB0_18 := hB18.cell (k := 0) rfl
    have cB1_18 := hB18.cell (k := 1) rfl
    have cJ0_18 := hJ18.cell (k := 0) rfl
    have cJ1_18 := hJ18.cell (k := 1) rfl
    have cM0_18 := hM18.cell (k := 0) rfl
    have cM1_18 := hM18.cell (k := 1) rfl
    have cX0_18 := hX18.cell (k := 0) rfl
    have cX1_18 := hX18.cell (k := 1) rfl
    have cW0_18 := hW18.cell (k := 0) rfl
    have cW1_18 := hW18.cell (k := 1) rfl
    have cY0_18 := hY18.cell (k := 0) rfl
    have cY1_18 := hY18.cell (k := 1) rfl
    clear hT17 hE17 hbl17 hA17 cA0_17 cA1_17 hB17 cB0_17 cB1_17 hJ17 cJ0_17 cJ1_17 hM17 cM0_17 cM1_17 hX17 cX0_17 cX1_17 hW17 cW0_17 cW1_17 hb18 nY
    go_wp2_with fail
    generalize World.alloc w17 (.cells #[.int .i64 p, .int .i64 m] 28) = w18 at *
    with_reducible refine (L_err (k := 2) (z := 2) hE18 rfl).mono ?_
    rintro e w19 ⟨rfl, hb19⟩
    have hT19 := hT18.next hb19
    have hE19 := hE18.next hb19
    have hbl19 := hbl18.trans (hb19.mono hbl18.size)
    have hA19 := hA18.all hb19
    have hB19 := hB18.all hb19
    have hJ19 := hJ18.all hb19
    have hM19 := hM18.all hb19
    have hX19 := hX18.all hb19
    have hW19 := hW18.all hb19
    have hY19 := hY18.all hb19
    have cA0_19 := hA19.cell (k := 0) rfl
    have cA1_19 := hA19.cell (k := 1) rfl
    have cB0_19 := hB19.cell (k := 0) rfl
    have cB1_19 := hB19.cell (k := 1) rfl
    have cJ0_19 := hJ19.cell (k := 0) rfl
    have cJ1_19 := hJ19.cell (k := 1) rfl
    have cM0_19 := hM19.cell (k := 0) rfl
    have cM1_19 := hM19.cell (k := 1) rfl
    have cX0_19 := hX19.cell (k := 0) rfl
    have cX1_19 := hX19.cell (k := 1) rfl
    have cW0_19 := hW19.cell (k := 0) rfl
    have cW1_19 := hW19.cell (k := 1) rfl
    have cY0_19 := hY19.cell (k := 0) rfl
    have cY1_19 := hY19.cell (k := 1) rfl
    clear hT18 hE18 hbl18 hA18 cA0_18 cA1_18 hB18 cB0_18 cB1_18 hJ18 cJ0_18 cJ1_18 hM18 cM0_18 cM1_18 hX18 cX0_18 cX1_18 hW18 cW0_18 cW1_18 hY18 cY0_18 cY1_18 hb19
    go_wp2_with fail
    go_ret
    exact ⟨rfl, hbl19⟩

set_option maxHeartbeats 8000000 in
theorem LabelSays_second (v s : Nat) (v' s' : Int) (str : ByteArray) (h : labOk (v : Int) (s : Int)) (h' : ¬ labOk v' s') (hstr : str.size < 2 ^ 48) (w : World) (hT : Tab w) (hE : ErrT w) :
    Calls Tryd.prog 4 #[.agg #[.int .i64 v, .int .i64 s], .agg #[.int .i64 v', .int .i64 s'], .string str] w fun e w' => e = .returned (.bool true) ∧ Below w.heap.size w w' := by
  obtain ⟨tx, htx⟩ : ∃ tx, (⟨(labText v s).toArray⟩ : ByteArray) = tx := ⟨_, rfl⟩
  have Htx := Lib.hid htx
  have Hok := Lib.hid h
  have Hno := Lib.hid h'
  have Hbad := Lib.hid (show ¬ (labOk (v : Int) (s : Int) ∧ labOk v' s') from fun e => h' e.2)
  clear h h' htx
  obtain ⟨p, m, o, hx⟩ : ∃ p m o, textV str.data.toList = (p, m, o) := ⟨_, _, _, rfl⟩
  have Hx := Lib.hid hx
  clear hx
  go_enter Tryd.func4, Tryd.ntmps4
  go_wp2_with fail
  have hA0 : BoxN ((w.alloc (.cells #[.int .i64 v, .int .i64 s] 28)).alloc (.cells #[.int .i64 v', .int .i64 s'] 28)) w.heap.size 28 #[.int .i64 v, .int .i64 s] := (BoxN.new w _ _).alloc _
  have hB0 : BoxN ((w.alloc (.cells #[.int .i64 v, .int .i64 s] 28)).alloc (.cells #[.int .i64 v', .int .i64 s'] 28)) (w.heap.size + 1) 28 #[.int .i64 v', .int .i64 s'] := by
    have := BoxN.new (w.alloc (.cells #[.int .i64 v, .int .i64 s] 28)) 28 #[.int .i64 v', .int .i64 s']
    simpa using this
  have hbl0 : Below w.heap.size w ((w.alloc (.cells #[.int .i64 v, .int .i64 s] 28)).alloc (.cells #[.int .i64 v', .int .i64 s'] 28)) := ((Below.refl _ w).alloc (Nat.le_refl _) _).alloc (by simp) _
  have hT0 := hT.next hbl0
  have hE0 := hE.next hbl0
  generalize (w.alloc (.cells #[.int .i64 v, .int .i64 s] 28)).alloc (.cells #[.int .i64 v', .int .i64 s'] 28) = w0 at *
  have cA0_0 := hA0.cell (k := 0) rfl
  have cA1_0 := hA0.cell (k := 1) rfl
  have cB0_0 := hB0.cell (k := 0) rfl
  have cB1_0 := hB0.cell (k := 1) rfl
  go_wp2_with fail
  with_reducible refine (L_rlabel (r := 0) (if_pos Hok.out) rfl).mono ?_
  rintro e w1 ⟨rfl, hb1⟩
  have hT1 := hT0.next hb1
  have hE1 := hE0.next hb1
  have hbl1 := hbl0.trans (hb1.mono hbl0.size)
  have hA1 := hA0.all hb1
  have hB1 := hB0.all hb1
  have cA0_1 := hA1.cell (k := 0) rfl
  have cA1_1 := hA1.cell (k := 1) rfl
  have cB0_1 := hB1.cell (k := 0) rfl
  have cB1_1 := hB1.cell (k := 1) rfl
  clear hT0 hE0 hbl0 hA0 cA0_0 cA1_0 hB0 cB0_0 cB1_0 hb1
  go_wp2_with fail
  with_reducible refine (L_check Hok.out).mono ?_
  rintro e w2 ⟨rfl, hb2⟩
  have hT2 := hT1.next hb2
  have hE2 := hE1.next hb2
  have hbl2 := hbl1.trans (hb2.mono hbl1.size)
  have hA2 := hA1.all hb2
  have hB2 := hB1.all hb2
  have cA0_2 := hA2.cell (k := 0) rfl
  have cA1_2 := hA2.cell (k := 1) rfl
  have cB0_2 := hB2.cell (k := 0) rfl
  have cB1_2 := hB2.cell (k := 1) rfl
  clear hT1 hE1 hbl1 hA1 cA0_1 cA1_1 hB1 cB0_1 cB1_1 hb2
  go_wp2_with fail
  with_reducible refine (L_err (k := 0) (z := 0) hE2 rfl).mono ?_
  rintro e w3 ⟨rfl, hb3⟩
  have hT3 := hT2.next hb3
  have hE3 := hE2.next hb3
  have hbl3 := hbl2.trans (hb3.mono hbl2.size)
  have hA3 := hA2.all hb3
  have hB3 := hB2.all hb3
  have cA0_3 := hA3.cell (k := 0) rfl
  have cA1_3 := hA3.cell (k := 1) rfl
  have cB0_3 := hB3.cell (k := 0) rfl
  have cB1_3 := hB3.cell (k := 1) rfl
  clear hT2 hE2 hbl2 hA2 cA0_2 cA1_2 hB2 cB0_2 cB1_2 hb3
  go_wp2_with fail
  with_reducible refine (L_written Hok.out Htx.out).mono ?_
  rintro e w4 ⟨rfl, hb4⟩
  have hT4 := hT3.next hb4
  have hE4 := hE3.next hb4
  have hbl4 := hbl3.trans (hb4.mono hbl3.size)
  have hA4 := hA3.all hb4
  have hB4 := hB3.all hb4
  have cA0_4 := hA4.cell (k := 0) rfl
  have cA1_4 := hA4.cell (k := 1) rfl
  have cB0_4 := hB4.cell (k := 0) rfl
  have cB1_4 := hB4.cell (k := 1) rfl
  clear hT3 hE3 hbl3 hA3 cA0_3 cA1_3 hB3 cB0_3 cB1_3 hb4
  go_wp2_with fail
  with_reducible refine (L_write Hok.out Htx.out hT4).mono ?_
  rintro e w5 ⟨rfl, hb5⟩
  have hT5 := hT4.next hb5
  have hE5 := hE4.next hb5
  have hbl5 := hbl4.trans (hb5.mono hbl4.size)
  have hA5 := hA4.all hb5
  have hB5 := hB4.all hb5
  have cA0_5 := hA5.cell (k := 0) rfl
  have cA1_5 := hA5.cell (k := 1) rfl
  have cB0_5 := hB5.cell (k := 0) rfl
  have cB1_5 := hB5.cell (k := 1) rfl
  clear hT4 hE4 hbl4 hA4 cA0_4 cA1_4 hB4 cB0_4 cB1_4 hb5
  go_wp2_with fail
  with_reducible refine (L_err (k := 0) (z := 0) hE5 rfl).mono ?_
  rintro e w6 ⟨rfl, hb6⟩
  have hT6 := hT5.next hb6
  have hE6 := hE5.next hb6
  have hbl6 := hbl5.trans (hb6.mono hbl5.size)
  have hA6 := hA5.all hb6
  have hB6 := hB5.all hb6
  have cA0_6 := hA6.cell (k := 0) rfl
  have cA1_6 := hA6.cell (k := 1) rfl
  have cB0_6 := hB6.cell (k := 0) rfl
  have cB1_6 := hB6.cell (k := 1) rfl
  clear hT5 hE5 hbl5 hA5 cA0_5 cA1_5 hB5 cB0_5 cB1_5 hb6
  go_wp2_with fail
  with_reducible refine (L_rlabel (r := 1) (if_neg Hno.out) rfl).mono ?_
  rintro e w7 ⟨rfl, hb7⟩
  have hT7 := hT6.next hb7
  have hE7 := hE6.next hb7
  have hbl7 := hbl6.trans (hb7.mono hbl6.size)
  have hA7 := hA6.all hb7
  have hB7 := hB6.all hb7
  have cA0_7 := hA7.cell (k := 0) rfl
  have cA1_7 := hA7.cell (k := 1) rfl
  have cB0_7 := hB7.cell (k := 0) rfl
  have cB1_7 := hB7.cell (k := 1) rfl
  clear hT6 hE6 hbl6 hA6 cA0_6 cA1_6 hB6 cB0_6 cB1_6 hb7
  have nJ : BoxN (World.alloc w7 (.cells #[.int .i64 0, .int .i64 0] 28)) (w7.heap.size) 28 #[.int .i64 0, .int .i64 0] := by have := BoxN.new w7 28 #[.int .i64 0, .int .i64 0]; simpa using this
  have nM : BoxN (World.alloc (World.alloc w7 (.cells #[.int .i64 0, .int .i64 0] 28)) (.cells #[.int .i64 0, .int .i64 0] 28)) (w7.heap.size + 1) 28 #[.int .i64 0, .int .i64 0] := by have := BoxN.new (World.alloc w7 (.cells #[.int .i64 0, .int .i64 0] 28)) 28 #[.int .i64 0, .int .i64 0]; simpa using this
  have hb8 : Below w7.heap.size w7 (World.alloc (World.alloc w7 (.cells #[.int .i64 0, .int .i64 0] 28)) (.cells #[.int .i64 0, .int .i64 0] 28)) := (((Below.refl _ w7).alloc (by simp) (.cells #[.int .i64 0, .int .i64 0] 28)).alloc (by simp) (.cells #[.int .i64 0, .int .i64 0] 28))
  have hT8 := hT7.next hb8
  have hE8 := hE7.next hb8
  have hbl8 := hbl7.trans (hb8.mono hbl7.size)
  have hA8 := hA7.all hb8
  have hB8 := hB7.all hb8
  have hJ8 := (nJ.alloc (.cells #[.int .i64 0, .int .i64 0] 28))
  have hM8 := nM
  have lA8 := hA7.lt
  have lB8 := hB7.lt
  have cA0_8 := hA8.cell (k := 0) rfl
  have cA1_8 := hA8.cell (k := 1) rfl
  have cB0_8 := hB8.cell (k := 0) rfl
  have cB1_8 := hB8.cell (k := 1) rfl
  have cJ0_8 := hJ8.cell (k := 0) rfl
  have cJ1_8 := hJ8.cell (k := 1) rfl
  have cM0_8 := hM8.cell (k := 0) rfl
  have cM1_8 := hM8.cell (k := 1) rfl
  clear hT7 hE7 hbl7 hA7 cA0_7 cA1_7 hB7 cB0_7 cB1_7 hb8 nJ nM
  go_wp2_with fail
  generalize World.alloc (World.alloc w7 (.cells #[.int .i64 0, .int .i64 0] 28)) (.cells #[.int .i64 0, .int .i64 0] 28) = w8 at *
  with_reducible refine (L_below_bad Hbad.out).mono ?_
  rintro e w9 ⟨rfl, hb9⟩
  have hT9 := hT8.next hb9
  have hE9 := hE8.next hb9
  have hbl9 := hbl8.trans (hb9.mono hbl8.size)
  have hA9 := hA8.all hb9
  have hB9 := hB8.all hb9
  have hJ9 := hJ8.all hb9
  have hM9 := hM8.all hb9
  have cA0_9 := hA9.cell (k := 0) rfl
  have cA1_9 := hA9.cell (k := 1) rfl
  have cB0_9 := hB9.cell (k := 0) rfl
  have cB1_9 := hB9.cell (k := 1) rfl
  have cJ0_9 := hJ9.cell (k := 0) rfl
  have cJ1_9 := hJ9.cell (k := 1) rfl
  have cM0_9 := hM9.cell (k := 0) rfl
  have cM1_9 := hM9.cell (k := 1) rfl
  clear hT8 hE8 hbl8 hA8 cA0_8 cA1_8 hB8 cB0_8 cB1_8 hJ8 cJ0_8 cJ1_8 hM8 cM0_8 cM1_8 hb9
  go_wp2_with fail
  with_reducible refine (L_err (k := 1) (z := 1) hE9 rfl).mono ?_
  rintro e w10 ⟨rfl, hb10⟩
  have hT10 := hT9.next hb10
  have hE10 := hE9.next hb10
  have hbl10 := hbl9.trans (hb10.mono hbl9.size)
  have hA10 := hA9.all hb10
  have hB10 := hB9.all hb10
  have hJ10 := hJ9.all hb10
  have hM10 := hM9.all hb10
  have cA0_10 := hA10.cell (k := 0) rfl
  have cA1_10 := hA10.cell (k := 1) rfl
  have cB0_10 := hB10.cell (k := 0) rfl
  have cB1_10 := hB10.cell (k := 1) rfl
  have cJ0_10 := hJ10.cell (k := 0) rfl
  have cJ1_10 := hJ10.cell (k := 1) rfl
  have cM0_10 := hM10.cell (k := 0) rfl
  have cM1_10 := hM10.cell (k := 1) rfl
  clear hT9 hE9 hbl9 hA9 cA0_9 cA1_9 hB9 cB0_9 cB1_9 hJ9 cJ0_9 cJ1_9 hM9 cM0_9 cM1_9 hb10
  go_wp2_with fail
  with_reducible refine (L_join_bad Hbad.out).mono ?_
  rintro e w11 ⟨rfl, hb11⟩
  have hT11 := hT10.next hb11
  have hE11 := hE10.next hb11
  have hbl11 := hbl10.trans (hb11.mono hbl10.size)
  have hA11 := hA10.all hb11
  have hB11 := hB10.all hb11
  have hJ11 := hJ10.all hb11
  have hM11 := hM10.all hb11
  have cA0_11 := hA11.cell (k := 0) rfl
  have cA1_11 := hA11.cell (k := 1) rfl
  have cB0_11 := hB11.cell (k := 0) rfl
  have cB1_11 := hB11.cell (k := 1) rfl
  have cJ0_11 := hJ11.cell (k := 0) rfl
  have cJ1_11 := hJ11.cell (k := 1) rfl
  have cM0_11 := hM11.cell (k := 0) rfl
  have cM1_11 := hM11.cell (k := 1) rfl
  clear hT10 hE10 hbl10 hA10 cA0_10 cA1_10 hB10 cB0_10 cB1_10 hJ10 cJ0_10 cJ1_10 hM10 cM0_10 cM1_10 hb11
  have nX : BoxN (World.alloc w11 (.cells #[.int .i64 0, .int .i64 0] 28)) (w11.heap.size) 28 #[.int .i64 0, .int .i64 0] := by have := BoxN.new w11 28 #[.int .i64 0, .int .i64 0]; simpa using this
  have hb12 : Below w11.heap.size w11 (World.alloc w11 (.cells #[.int .i64 0, .int .i64 0] 28)) := ((Below.refl _ w11).alloc (by simp) (.cells #[.int .i64 0, .int .i64 0] 28))
  have hT12 := hT11.next hb12
  have hE12 := hE11.next hb12
  have hbl12 := hbl11.trans (hb12.mono hbl11.size)
  have hA12 := hA11.all hb12
  have hB12 := hB11.all hb12
  have hJ12 := hJ11.all hb12
  have hM12 := hM11.all hb12
  have hX12 := nX
  have lA12 := hA11.lt
  have lB12 := hB11.lt
  have lJ12 := hJ11.lt
  have lM12 := hM11.lt
  have cA0_12 := hA12.cell (k := 0) rfl
  have cA1_12 := hA12.cell (k := 1) rfl
  have cB0_12 := hB12.cell (k := 0) rfl
  have cB1_12 := hB12.cell (k := 1) rfl
  have cJ0_12 := hJ12.cell (k := 0) rfl
  have cJ1_12 := hJ12.cell (k := 1) rfl
  have cM0_12 := hM12.cell (k := 0) rfl
  have cM1_12 := hM12.cell (k := 1) rfl
  have cX0_12 := hX12.cell (k := 0) rfl
  have cX1_12 := hX12.cell (k := 1) rfl
  clear hT11 hE11 hbl11 hA11 cA0_11 cA1_11 hB11 cB0_11 cB1_11 hJ11 cJ0_11 cJ1_11 hM11 cM0_11 cM1_11 hb12 nX
  go_wp2_with fail
  generalize World.alloc w11 (.cells #[.int .i64 0, .int .i64 0] 28) = w12 at *
  with_reducible refine (L_err (k := 1) (z := 1) hE12 rfl).mono ?_
  rintro e w13 ⟨rfl, hb13⟩
  have hT13 := hT12.next hb13
  have hE13 := hE12.next hb13
  have hbl13 := hbl12.trans (hb13.mono hbl12.size)
  have hA13 := hA12.all hb13
  have hB13 := hB12.all hb13
  have hJ13 := hJ12.all hb13
  have hM13 := hM12.all hb13
  have hX13 := hX12.all hb13
  have cA0_13 := hA13.cell (k := 0) rfl
  have cA1_13 := hA13.cell (k := 1) rfl
  have cB0_13 := hB13.cell (k := 0) rfl
  have cB1_13 := hB13.cell (k := 1) rfl
  have cJ0_13 := hJ13.cell (k := 0) rfl
  have cJ1_13 := hJ13.cell (k := 1) rfl
  have cM0_13 := hM13.cell (k := 0) rfl
  have cM1_13 := hM13.cell (k := 1) rfl
  have cX0_13 := hX13.cell (k := 0) rfl
  have cX1_13 := hX13.cell (k := 1) rfl
  clear hT12 hE12 hbl12 hA12 cA0_12 cA1_12 hB12 cB0_12 cB1_12 hJ12 cJ0_12 cJ1_12 hM12 cM0_12 cM1_12 hX12 cX0_12 cX1_12 hb13
  go_wp2_with fail
  with_reducible refine (L_meet_bad Hbad.out).mono ?_
  rintro e w14 ⟨rfl, hb14⟩
  have hT14 := hT13.next hb14
  have hE14 := hE13.next hb14
  have hbl14 := hbl13.trans (hb14.mono hbl13.size)
  have hA14 := hA13.all hb14
  have hB14 := hB13.all hb14
  have hJ14 := hJ13.all hb14
  have hM14 := hM13.all hb14
  have hX14 := hX13.all hb14
  have cA0_14 := hA14.cell (k := 0) rfl
  have cA1_14 := hA14.cell (k := 1) rfl
  have cB0_14 := hB14.cell (k := 0) rfl
  have cB1_14 := hB14.cell (k := 1) rfl
  have cJ0_14 := hJ14.cell (k := 0) rfl
  have cJ1_14 := hJ14.cell (k := 1) rfl
  have cM0_14 := hM14.cell (k := 0) rfl
  have cM1_14 := hM14.cell (k := 1) rfl
  have cX0_14 := hX14.cell (k := 0) rfl
  have cX1_14 := hX14.cell (k := 1) rfl
  clear hT13 hE13 hbl13 hA13 cA0_13 cA1_13 hB13 cB0_13 cB1_13 hJ13 cJ0_13 cJ1_13 hM13 cM0_13 cM1_13 hX13 cX0_13 cX1_13 hb14
  have fX0_14 := hX14.free 0
  have fX1_14 := hX14.free 1
  have hA15_1 : BoxN (World.setCell w14 ⟨w11.heap.size, 0, none⟩ (.int .i64 0)) (w.heap.size) _ _ := (hA14.other (a := ⟨w11.heap.size, 0, none⟩) (by show w.heap.size ≠ w11.heap.size; omega) (.int .i64 0))
  have hB15_1 : BoxN (World.setCell w14 ⟨w11.heap.size, 0, none⟩ (.int .i64 0)) (w.heap.size + 1) _ _ := (hB14.other (a := ⟨w11.heap.size, 0, none⟩) (by show w.heap.size + 1 ≠ w11.heap.size; omega) (.int .i64 0))
  have hJ15_1 : BoxN (World.setCell w14 ⟨w11.heap.size, 0, none⟩ (.int .i64 0)) (w7.heap.size) _ _ := (hJ14.other (a := ⟨w11.heap.size, 0, none⟩) (by show w7.heap.size ≠ w11.heap.size; omega) (.int .i64 0))
  have hM15_1 : BoxN (World.setCell w14 ⟨w11.heap.size, 0, none⟩ (.int .i64 0)) (w7.heap.size + 1) _ _ := (hM14.other (a := ⟨w11.heap.size, 0, none⟩) (by show w7.heap.size + 1 ≠ w11.heap.size; omega) (.int .i64 0))
  have hX15_1 : BoxN (World.setCell w14 ⟨w11.heap.size, 0, none⟩ (.int .i64 0)) (w11.heap.size) _ _ := (hX14.set 0 (.int .i64 0))
  simp only [List.setIfInBounds_toArray, List.set_cons_succ, List.set_cons_zero] at hA15_1 hB15_1 hJ15_1 hM15_1 hX15_1
  have cA0_15_1 := hA15_1.cell (k := 0) rfl
  have cA1_15_1 := hA15_1.cell (k := 1) rfl
  have fA0_15_1 := hA15_1.free 0
  have fA1_15_1 := hA15_1.free 1
  have cB0_15_1 := hB15_1.cell (k := 0) rfl
  have cB1_15_1 := hB15_1.cell (k := 1) rfl
  have fB0_15_1 := hB15_1.free 0
  have fB1_15_1 := hB15_1.free 1
  have cJ0_15_1 := hJ15_1.cell (k := 0) rfl
  have cJ1_15_1 := hJ15_1.cell (k := 1) rfl
  have fJ0_15_1 := hJ15_1.free 0
  have fJ1_15_1 := hJ15_1.free 1
  have cM0_15_1 := hM15_1.cell (k := 0) rfl
  have cM1_15_1 := hM15_1.cell (k := 1) rfl
  have fM0_15_1 := hM15_1.free 0
  have fM1_15_1 := hM15_1.free 1
  have cX0_15_1 := hX15_1.cell (k := 0) rfl
  have cX1_15_1 := hX15_1.cell (k := 1) rfl
  have fX0_15_1 := hX15_1.free 0
  have fX1_15_1 := hX15_1.free 1
  have hg15 : Below w.heap.size w14 (World.setCell (World.setCell w14 ⟨w11.heap.size, 0, none⟩ (.int .i64 0)) ⟨w11.heap.size, 1, none⟩ (.int .i64 0)) := (((Below.refl w.heap.size w14).setCell (p := ⟨w11.heap.size, 0, none⟩) (by show w.heap.size ≤ w11.heap.size; omega) (.int .i64 0)).setCell (p := ⟨w11.heap.size, 1, none⟩) (by show w.heap.size ≤ w11.heap.size; omega) (.int .i64 0))
  have hbl15 := hbl14.trans hg15
  have hT15 := hT.next hbl15
  have hE15 := hE.next hbl15
  have hA15 : BoxN (World.setCell (World.setCell w14 ⟨w11.heap.size, 0, none⟩ (.int .i64 0)) ⟨w11.heap.size, 1, none⟩ (.int .i64 0)) (w.heap.size) _ _ := ((hA14.other (a := ⟨w11.heap.size, 0, none⟩) (by show w.heap.size ≠ w11.heap.size; omega) (.int .i64 0)).other (a := ⟨w11.heap.size, 1, none⟩) (by show w.heap.size ≠ w11.heap.size; omega) (.int .i64 0))
  have hB15 : BoxN (World.setCell (World.setCell w14 ⟨w11.heap.size, 0, none⟩ (.int .i64 0)) ⟨w11.heap.size, 1, none⟩ (.int .i64 0)) (w.heap.size + 1) _ _ := ((hB14.other (a := ⟨w11.heap.size, 0, none⟩) (by show w.heap.size + 1 ≠ w11.heap.size; omega) (.int .i64 0)).other (a := ⟨w11.heap.size, 1, none⟩) (by show w.heap.size + 1 ≠ w11.heap.size; omega) (.int .i64 0))
  have hJ15 : BoxN (World.setCell (World.setCell w14 ⟨w11.heap.size, 0, none⟩ (.int .i64 0)) ⟨w11.heap.size, 1, none⟩ (.int .i64 0)) (w7.heap.size) _ _ := ((hJ14.other (a := ⟨w11.heap.size, 0, none⟩) (by show w7.heap.size ≠ w11.heap.size; omega) (.int .i64 0)).other (a := ⟨w11.heap.size, 1, none⟩) (by show w7.heap.size ≠ w11.heap.size; omega) (.int .i64 0))
  have hM15 : BoxN (World.setCell (World.setCell w14 ⟨w11.heap.size, 0, none⟩ (.int .i64 0)) ⟨w11.heap.size, 1, none⟩ (.int .i64 0)) (w7.heap.size + 1) _ _ := ((hM14.other (a := ⟨w11.heap.size, 0, none⟩) (by show w7.heap.size + 1 ≠ w11.heap.size; omega) (.int .i64 0)).other (a := ⟨w11.heap.size, 1, none⟩) (by show w7.heap.size + 1 ≠ w11.heap.size; omega) (.int .i64 0))
  have hX15 : BoxN (World.setCell (World.setCell w14 ⟨w11.heap.size, 0, none⟩ (.int .i64 0)) ⟨w11.heap.size, 1, none⟩ (.int .i64 0)) (w11.heap.size) _ _ := ((hX14.set 0 (.int .i64 0)).set 1 (.int .i64 0))
  simp only [List.setIfInBounds_toArray, List.set_cons_succ, List.set_cons_zero] at hA15 hB15 hJ15 hM15 hX15
  have cA0_15 := hA15.cell (k := 0) rfl
  have cA1_15 := hA15.cell (k := 1) rfl
  have cB0_15 := hB15.cell (k := 0) rfl
  have cB1_15 := hB15.cell (k := 1) rfl
  have cJ0_15 := hJ15.cell (k := 0) rfl
  have cJ1_15 := hJ15.cell (k := 1) rfl
  have cM0_15 := hM15.cell (k := 0) rfl
  have cM1_15 := hM15.cell (k := 1) rfl
  have cX0_15 := hX15.cell (k := 0) rfl
  have cX1_15 := hX15.cell (k := 1) rfl
  go_wp2_with fail
  clear hT14 hE14 hbl14 hA14 cA0_14 cA1_14 hB14 cB0_14 cB1_14 hJ14 cJ0_14 cJ1_14 hM14 cM0_14 cM1_14 hX14 cX0_14 cX1_14 hg15 hA15_1 cA0_15_1 cA1_15_1 fA0_15_1 fA1_15_1 hB15_1 cB0_15_1 cB1_15_1 fB0_15_1 fB1_15_1 hJ15_1 cJ0_15_1 cJ1_15_1 fJ0_15_1 fJ1_15_1 hM15_1 cM0_15_1 cM1_15_1 fM0_15_1 fM1_15_1 hX15_1 cX0_15_1 cX1_15_1 fX0_15_1 fX1_15_1
  generalize (World.setCell (World.setCell w14 ⟨w11.heap.size, 0, none⟩ (.int .i64 0)) ⟨w11.heap.size, 1, none⟩ (.int .i64 0)) = w15 at *
  with_reducible refine (L_err (k := 1) (z := 1) hE15 rfl).mono ?_
  rintro e w16 ⟨rfl, hb16⟩
  have hT16 := hT15.next hb16
  have hE16 := hE15.next hb16
  have hbl16 := hbl15.trans (hb16.mono hbl15.size)
  have hA16 := hA15.all hb16
  have hB16 := hB15.all hb16
  have hJ16 := hJ15.all hb16
  have hM16 := hM15.all hb16
  have hX16 := hX15.all hb16
  have cA0_16 := hA16.cell (k := 0) rfl
  have cA1_16 := hA16.cell (k := 1) rfl
  have cB0_16 := hB16.cell (k := 0) rfl
  have cB1_16 := hB16.cell (k := 1) rfl
  have cJ0_16 := hJ16.cell (k := 0) rfl
  have cJ1_16 := hJ16.cell (k := 1) rfl
  have cM0_16 := hM16.cell (k := 0) rfl
  have cM1_16 := hM16.cell (k := 1) rfl
  have cX0_16 := hX16.cell (k := 0) rfl
  have cX1_16 := hX16.cell (k := 1) rfl
  clear hT15 hE15 hbl15 hA15 cA0_15 cA1_15 hB15 cB0_15 cB1_15 hJ15 cJ0_15 cJ1_15 hM15 cM0_15 cM1_15 hX15 cX0_15 cX1_15 hb16
  go_wp2_with fail
  with_reducible refine (L_rparse (p := p) (m := m) (o := o) hstr Hx.out).mono ?_
  rintro e w17 ⟨rfl, hb17⟩
  have hT17 := hT16.next hb17
  have hE17 := hE16.next hb17
  have hbl17 := hbl16.trans (hb17.mono hbl16.size)
  have hA17 := hA16.all hb17
  have hB17 := hB16.all hb17
  have hJ17 := hJ16.all hb17
  have hM17 := hM16.all hb17
  have hX17 := hX16.all hb17
  have cA0_17 := hA17.cell (k := 0) rfl
  have cA1_17 := hA17.cell (k := 1) rfl
  have cB0_17 := hB17.cell (k := 0) rfl
  have cB1_17 := hB17.cell (k := 1) rfl
  have cJ0_17 := hJ17.cell (k := 0) rfl
  have cJ1_17 := hJ17.cell (k := 1) rfl
  have cM0_17 := hM17.cell (k := 0) rfl
  have cM1_17 := hM17.cell (k := 1) rfl
  have cX0_17 := hX17.cell (k := 0) rfl
  have cX1_17 := hX17.cell (k := 1) rfl
  clear hT16 hE16 hbl16 hA16 cA0_16 cA1_16 hB16 cB0_16 cB1_16 hJ16 cJ0_16 cJ1_16 hM16 cM0_16 cM1_16 hX16 cX0_16 cX1_16 hb17
  cases o with
  | true =>
    have hbw17 := hbl17
    have nW : BoxN (World.alloc w17 (.cells #[.int .i64 p, .int .i64 m] 28)) (w17.heap.size) 28 #[.int .i64 p, .int .i64 m] := by have := BoxN.new w17 28 #[.int .i64 p, .int .i64 m]; simpa using this
    have hb18 : Below w17.heap.size w17 (World.alloc w17 (.cells #[.int .i64 p, .int .i64 m] 28)) := ((Below.refl _ w17).alloc (by simp) (.cells #[.int .i64 p, .int .i64 m] 28))
    have hT18 := hT17.next hb18
    have hE18 := hE17.next hb18
    have hbl18 := hbl17.trans (hb18.mono hbl17.size)
    have hA18 := hA17.all hb18
    have hB18 := hB17.all hb18
    have hJ18 := hJ17.all hb18
    have hM18 := hM17.all hb18
    have hX18 := hX17.all hb18
    have hW18 := nW
    have lA18 := hA17.lt
    have lB18 := hB17.lt
    have lJ18 := hJ17.lt
    have lM18 := hM17.lt
    have lX18 := hX17.lt
    have cA0_18 := hA18.cell (k := 0) rfl
    have cA1_18 := hA18.cell (k := 1) rfl
    have cB0_18 := hB18.cell (k := 0) rfl
    have cB1_18 := hB18.cell (k := 1) rfl
    have cJ0_18 := hJ18.cell (k := 0) rfl
    have cJ1_18 := hJ18.cell (k := 1) rfl
    have cM0_18 := hM18.cell (k := 0) rfl
    have cM1_18 := hM18.cell (k := 1) rfl
    have cX0_18 := hX18.cell (k := 0) rfl
    have cX1_18 := hX18.cell (k := 1) rfl
    have cW0_18 := hW18.cell (k := 0) rfl
    have cW1_18 := hW18.cell (k := 1) rfl
    clear hT17 hE17 hbl17 hA17 cA0_17 cA1_17 hB17 cB0_17 cB1_17 hJ17 cJ0_17 cJ1_17 hM17 cM0_17 cM1_17 hX17 cX0_17 cX1_17 hb18 nW
    go_wp2_with fail
    generalize World.alloc w17 (.cells #[.int .i64 p, .int .i64 m] 28) = w18 at *
    with_reducible refine (L_parse (p := p) (m := m) (o := true) (k := 0) hstr Hx.out rfl).mono ?_
    rintro e w19 ⟨rfl, hb19⟩
    have hT19 := hT18.next hb19
    have hE19 := hE18.next hb19
    have hbl19 := hbl18.trans (hb19.mono hbl18.size)
    have hA19 := hA18.all hb19
    have hB19 := hB18.all hb19
    have hJ19 := hJ18.all hb19
    have hM19 := hM18.all hb19
    have hX19 := hX18.all hb19
    have hW19 := hW18.all hb19
    have cA0_19 := hA19.cell (k := 0) rfl
    have cA1_19 := hA19.cell (k := 1) rfl
    have cB0_19 := hB19.cell (k := 0) rfl
    have cB1_19 := hB19.cell (k := 1) rfl
    have cJ0_19 := hJ19.cell (k := 0) rfl
    have cJ1_19 := hJ19.cell (k := 1) rfl
    have cM0_19 := hM19.cell (k := 0) rfl
    have cM1_19 := hM19.cell (k := 1) rfl
    have cX0_19 := hX19.cell (k := 0) rfl
    have cX1_19 := hX19.cell (k := 1) rfl
    have cW0_19 := hW19.cell (k := 0) rfl
    have cW1_19 := hW19.cell (k := 1) rfl
    clear hT18 hE18 hbl18 hA18 cA0_18 cA1_18 hB18 cB0_18 cB1_18 hJ18 cJ0_18 cJ1_18 hM18 cM0_18 cM1_18 hX18 cX0_18 cX1_18 hW18 cW0_18 cW1_18 hb19
    have nY : BoxN (World.alloc w19 (.cells #[.int .i64 p, .int .i64 m] 28)) (w19.heap.size) 28 #[.int .i64 p, .int .i64 m] := by have := BoxN.new w19 28 #[.int .i64 p, .int .i64 m]; simpa using this
    have hb20 : Below w19.heap.size w19 (World.alloc w19 (.cells #[.int .i64 p, .int .i64 m] 28)) := ((Below.refl _ w19).alloc (by simp) (.cells #[.int .i64 p, .int .i64 m] 28))
    have hT20 := hT19.next hb20
    have hE20 := hE19.next hb20
    have hbl20 := hbl19.trans (hb20.mono hbl19.size)
    have hA20 := hA19.all hb20
    have hB20 := hB19.all hb20
    have hJ20 := hJ19.all hb20
    have hM20 := hM19.all hb20
    have hX20 := hX19.all hb20
    have hW20 := hW19.all hb20
    have hY20 := nY
    have lA20 := hA19.lt
    have lB20 := hB19.lt
    have lJ20 := hJ19.lt
    have lM20 := hM19.lt
    have lX20 := hX19.lt
    have lW20 := hW19.lt
    have cA0_20 := hA20.cell (k := 0) rfl
    have cA1_20 := hA20.cell (k := 1) rfl
    have cB0_20 := hB20.cell (k := 0) rfl
    have cB1_20 := hB20.cell (k := 1) rfl
    have cJ0_20 := hJ20.cell (k := 0) rfl
    have cJ1_20 := hJ20.cell (k := 1) rfl
    have cM0_20 := hM20.cell (k := 0) rfl
    have cM1_20 := hM20.cell (k := 1) rfl
    have cX0_20 := hX20.cell (k := 0) rfl
    have cX1_20 := hX20.cell (k := 1) rfl
    have cW0_20 := hW20.cell (k := 0) rfl
    have cW1_20 := hW20.cell (k := 1) rfl
    have cY0_20 := hY20.cell (k := 0) rfl
    have cY1_20 := hY20.cell (k := 1) rfl
    clear hT19 hE19 hbl19 hA19 cA0_19 cA1_19 hB19 cB0_19 cB1_19 hJ19 cJ0_19 cJ1_19 hM19 cM0_19 cM1_19 hX19 cX0_19 cX1_19 hW19 cW0_19 cW1_19 hb20 nY
    go_wp2_with fail
    generalize World.alloc w19 (.cells #[.int .i64 p, .int .i64 m] 28) = w20 at *
    with_reducible refine (L_err (k := 0) (z := 0) hE20 rfl).mono ?_
    rintro e w21 ⟨rfl, hb21⟩
    have hT21 := hT20.next hb21
    have hE21 := hE20.next hb21
    have hbl21 := hbl20.trans (hb21.mono hbl20.size)
    have hA21 := hA20.all hb21
    have hB21 := hB20.all hb21
    have hJ21 := hJ20.all hb21
    have hM21 := hM20.all hb21
    have hX21 := hX20.all hb21
    have hW21 := hW20.all hb21
    have hY21 := hY20.all hb21
    have cA0_21 := hA21.cell (k := 0) rfl
    have cA1_21 := hA21.cell (k := 1) rfl
    have cB0_21 := hB21.cell (k := 0) rfl
    have cB1_21 := hB21.cell (k := 1) rfl
    have cJ0_21 := hJ21.cell (k := 0) rfl
    have cJ1_21 := hJ21.cell (k := 1) rfl
    have cM0_21 := hM21.cell (k := 0) rfl
    have cM1_21 := hM21.cell (k := 1) rfl
    have cX0_21 := hX21.cell (k := 0) rfl
    have cX1_21 := hX21.cell (k := 1) rfl
    have cW0_21 := hW21.cell (k := 0) rfl
    have cW1_21 := hW21.cell (k := 1) rfl
    have cY0_21 := hY21.cell (k := 0) rfl
    have cY1_21 := hY21.cell (k := 1) rfl
    clear hT20 hE20 hbl20 hA20 cA0_20 cA1_20 hB20 cB0_20 cB1_20 hJ20 cJ0_20 cJ1_20 hM20 cM0_20 cM1_20 hX20 cX0_20 cX1_20 hW20 cW0_20 cW1_20 hY20 cY0_20 cY1_20 hb21
    go_wp2_with fail
    go_ret
    exact ⟨rfl, hbl21⟩
  | false =>
    have hbw17 := hbl17
    have nW : BoxN (World.alloc w17 (.cells #[.int .i64 p, .int .i64 m] 28)) (w17.heap.size) 28 #[.int .i64 p, .int .i64 m] := by have := BoxN.new w17 28 #[.int .i64 p, .int .i64 m]; simpa using this
    have hb18 : Below w17.heap.size w17 (World.alloc w17 (.cells #[.int .i64 p, .int .i64 m] 28)) := ((Below.refl _ w17).alloc (by simp) (.cells #[.int .i64 p, .int .i64 m] 28))
    have hT18 := hT17.next hb18
    have hE18 := hE17.next hb18
    have hbl18 := hbl17.trans (hb18.mono hbl17.size)
    have hA18 := hA17.all hb18
    have hB18 := hB17.all hb18
    have hJ18 := hJ17.all hb18
    have hM18 := hM17.all hb18
    have hX18 := hX17.all hb18
    have hW18 := nW
    have lA18 := hA17.lt
    have lB18 := hB17.lt
    have lJ18 := hJ17.lt
    have lM18 := hM17.lt
    have lX18 := hX17.lt
    have cA0_18 := hA18.cell (k := 0) rfl
    have cA1_18 := hA18.cell (k := 1) rfl
    have cB0_18 := hB18.cell (k := 0) rfl
    have cB1_18 := hB18.cell (k := 1) rfl
    have cJ0_18 := hJ18.cell (k := 0) rfl
    have cJ1_18 := hJ18.cell (k := 1) rfl
    have cM0_18 := hM18.cell (k := 0) rfl
    have cM1_18 := hM18.cell (k := 1) rfl
    have cX0_18 := hX18.cell (k := 0) rfl
    have cX1_18 := hX18.cell (k := 1) rfl
    have cW0_18 := hW18.cell (k := 0) rfl
    have cW1_18 := hW18.cell (k := 1) rfl
    clear hT17 hE17 hbl17 hA17 cA0_17 cA1_17 hB17 cB0_17 cB1_17 hJ17 cJ0_17 cJ1_17 hM17 cM0_17 cM1_17 hX17 cX0_17 cX1_17 hb18 nW
    go_wp2_with fail
    generalize World.alloc w17 (.cells #[.int .i64 p, .int .i64 m] 28) = w18 at *
    with_reducible refine (L_parse (p := p) (m := m) (o := false) (k := 2) hstr Hx.out rfl).mono ?_
    rintro e w19 ⟨rfl, hb19⟩
    have hT19 := hT18.next hb19
    have hE19 := hE18.next hb19
    have hbl19 := hbl18.trans (hb19.mono hbl18.size)
    have hA19 := hA18.all hb19
    have hB19 := hB18.all hb19
    have hJ19 := hJ18.all hb19
    have hM19 := hM18.all hb19
    have hX19 := hX18.all hb19
    have hW19 := hW18.all hb19
    have cA0_19 := hA19.cell (k := 0) rfl
    have cA1_19 := hA19.cell (k := 1) rfl
    have cB0_19 := hB19.cell (k := 0) rfl
    have cB1_19 := hB19.cell (k := 1) rfl
    have cJ0_19 := hJ19.cell (k := 0) rfl
    have cJ1_19 := hJ19.cell (k := 1) rfl
    have cM0_19 := hM19.cell (k := 0) rfl
    have cM1_19 := hM19.cell (k := 1) rfl
    have cX0_19 := hX19.cell (k := 0) rfl
    have cX1_19 := hX19.cell (k := 1) rfl
    have cW0_19 := hW19.cell (k := 0) rfl
    have cW1_19 := hW19.cell (k := 1) rfl
    clear hT18 hE18 hbl18 hA18 cA0_18 cA1_18 hB18 cB0_18 cB1_18 hJ18 cJ0_18 cJ1_18 hM18 cM0_18 cM1_18 hX18 cX0_18 cX1_18 hW18 cW0_18 cW1_18 hb19
    have nY : BoxN (World.alloc w19 (.cells #[.int .i64 p, .int .i64 m] 28)) (w19.heap.size) 28 #[.int .i64 p, .int .i64 m] := by have := BoxN.new w19 28 #[.int .i64 p, .int .i64 m]; simpa using this
    have hb20 : Below w19.heap.size w19 (World.alloc w19 (.cells #[.int .i64 p, .int .i64 m] 28)) := ((Below.refl _ w19).alloc (by simp) (.cells #[.int .i64 p, .int .i64 m] 28))
    have hT20 := hT19.next hb20
    have hE20 := hE19.next hb20
    have hbl20 := hbl19.trans (hb20.mono hbl19.size)
    have hA20 := hA19.all hb20
    have hB20 := hB19.all hb20
    have hJ20 := hJ19.all hb20
    have hM20 := hM19.all hb20
    have hX20 := hX19.all hb20
    have hW20 := hW19.all hb20
    have hY20 := nY
    have lA20 := hA19.lt
    have lB20 := hB19.lt
    have lJ20 := hJ19.lt
    have lM20 := hM19.lt
    have lX20 := hX19.lt
    have lW20 := hW19.lt
    have cA0_20 := hA20.cell (k := 0) rfl
    have cA1_20 := hA20.cell (k := 1) rfl
    have cB0_20 := hB20.cell (k := 0) rfl
    have cB1_20 := hB20.cell (k := 1) rfl
    have cJ0_20 := hJ20.cell (k := 0) rfl
    have cJ1_20 := hJ20.cell (k := 1) rfl
    have cM0_20 := hM20.cell (k := 0) rfl
    have cM1_20 := hM20.cell (k := 1) rfl
    have cX0_20 := hX20.cell (k := 0) rfl
    have cX1_20 := hX20.cell (k := 1) rfl
    have cW0_20 := hW20.cell (k := 0) rfl
    have cW1_20 := hW20.cell (k := 1) rfl
    have cY0_20 := hY20.cell (k := 0) rfl
    have cY1_20 := hY20.cell (k := 1) rfl
    clear hT19 hE19 hbl19 hA19 cA0_19 cA1_19 hB19 cB0_19 cB1_19 hJ19 cJ0_19 cJ1_19 hM19 cM0_19 cM1_19 hX19 cX0_19 cX1_19 hW19 cW0_19 cW1_19 hb20 nY
    go_wp2_with fail
    generalize World.alloc w19 (.cells #[.int .i64 p, .int .i64 m] 28) = w20 at *
    with_reducible refine (L_err (k := 2) (z := 2) hE20 rfl).mono ?_
    rintro e w21 ⟨rfl, hb21⟩
    have hT21 := hT20.next hb21
    have hE21 := hE20.next hb21
    have hbl21 := hbl20.trans (hb21.mono hbl20.size)
    have hA21 := hA20.all hb21
    have hB21 := hB20.all hb21
    have hJ21 := hJ20.all hb21
    have hM21 := hM20.all hb21
    have hX21 := hX20.all hb21
    have hW21 := hW20.all hb21
    have hY21 := hY20.all hb21
    have cA0_21 := hA21.cell (k := 0) rfl
    have cA1_21 := hA21.cell (k := 1) rfl
    have cB0_21 := hB21.cell (k := 0) rfl
    have cB1_21 := hB21.cell (k := 1) rfl
    have cJ0_21 := hJ21.cell (k := 0) rfl
    have cJ1_21 := hJ21.cell (k := 1) rfl
    have cM0_21 := hM21.cell (k := 0) rfl
    have cM1_21 := hM21.cell (k := 1) rfl
    have cX0_21 := hX21.cell (k := 0) rfl
    have cX1_21 := hX21.cell (k := 1) rfl
    have cW0_21 := hW21.cell (k := 0) rfl
    have cW1_21 := hW21.cell (k := 1) rfl
    have cY0_21 := hY21.cell (k := 0) rfl
    have cY1_21 := hY21.cell (k := 1) rfl
    clear hT20 hE20 hbl20 hA20 cA0_20 cA1_20 hB20 cB0_20 cB1_20 hJ20 cJ0_20 cJ1_20 hM20 cM0_20 cM1_20 hX20 cX0_20 cX1_20 hW20 cW0_20 cW1_20 hY20 cY0_20 cY1_20 hb21
    go_wp2_with fail
    go_ret
    exact ⟨rfl, hbl21⟩

theorem LabelSays_walk (v s v' s' : Int) (str : ByteArray) (hstr : str.size < 2 ^ 47) {W : World} (w : World) (hw : w = W) (hT : Tab W) (hE : ErrT W) :
    Calls Tryd.prog 4 #[.agg #[.int .i64 v, .int .i64 s], .agg #[.int .i64 v', .int .i64 s'], .string str] w fun e w' => e = .returned (.bool true) ∧ Below w.heap.size w w' := by
  subst hw
  by_cases h : labOk v s
  · obtain ⟨vn, rfl⟩ := Int.eq_ofNat_of_zero_le h.1
    obtain ⟨sn, rfl⟩ := Int.eq_ofNat_of_zero_le h.2.2.1
    by_cases h' : labOk v' s'
    · obtain ⟨vn', rfl⟩ := Int.eq_ofNat_of_zero_le h'.1
      obtain ⟨sn', rfl⟩ := Int.eq_ofNat_of_zero_le h'.2.2.1
      exact LabelSays_ok vn sn vn' sn' str h h' (by omega) w hT hE
    · exact LabelSays_second vn sn v' s' str h h' (by omega) w hT hE
  · exact LabelSays_first v s v' s' str h (by omega) w hT hE
end Go.Proofs.YtndeplakkhfmlaaDoor
