/-
  Contracts: the closures of take.Plan: a step more; a vertex more; rights passed on.
-/
import Derived.Test.YtpfmllpodjcldaaDoorTakeP
import Derived.Test.YtpfmllpodjcldaaDoorTakeB
namespace Go.Proofs.YtpfmllpodjcldaaDoor
open Go.RowKit
set_option maxRecDepth 100000
set_option linter.unusedVariables false

theorem eSteps : EInfo Tryd.prog 23 65 5 40 := EInfo.of (z := .agg #[.int .i64 0, .int .i64 0, .int .i64 0, .int .i64 0, .int .i64 0]) Tryd.underlying23 (by kernel_rfl) rfl (by decide)
def flatS (S : List GStep) : List Int := S.flatMap fun s => [s.k, s.w, s.o, s.t, s.r]
theorem flatS_push (S : List GStep) (s : GStep) : flatS (S ++ [s]) = flatS S ++ [s.k, s.w, s.o, s.t, s.r] := by simp [flatS]
theorem length_flatS (S : List GStep) : (flatS S).length = S.length * 5 := by
  induction S with
  | nil => rfl
  | cons s S ih => unfold flatS at *; rw [List.flatMap_cons, List.length_append, ih, List.length_cons]; simp; omega
/-- Steps in a row of one's own. -/
def OwnS (w : World) (B : Nat) (v : Value) (S : List GStep) : Prop := w.ownsRow B 65 5 v S.length ((flatS S).map (.int .i64))
theorem OwnS.nil (w : World) (B : Nat) : OwnS w B vNil [] := World.ownsRow_nil w B _ 5
theorem OwnS.form {w : World} {B : Nat} {v : Value} {S : List GStep} (h : OwnS w B v S) : ∃ A c, v = .slice A S.length c ∧ IntsAt w A (flatS S) := by
  have h' : w.ownsRow B 65 5 v S.length ((flatS S).map (.int .i64)) := h
  obtain ⟨A, c, rfl⟩ := ownsRow_form h'
  exact ⟨A, c, rfl, (CellsAt.own h').ints⟩
theorem wpList_push_step {w : World} {ops : Array Oper} {rest : List Oper} {o : Oper} {a : Act} {Q : Exit → Act → World → Prop} (hgd : o.guard = none) (s x : Operand)
    (ho : o.op = .call { callee := .builtin .append, args := #[s, x], argTypes := #[23, 23] })
    {base : Nat} {v : Value} {S : List GStep} (hs : a.eval s = v) (hown : OwnS w base v S) (g : Nat) (z : GStep) (hx : a.eval x = .slice (some ⟨g, 0, none⟩) 1 1) (hc : BoxN w g 65 #[.int .i64 z.k, .int .i64 z.w, .int .i64 z.o, .int .i64 z.t, .int .i64 z.r])
    (hn : S.length < 2 ^ 40) (hbase : base ≤ w.heap.size)
    (h : ∀ v' w', OwnS w' base v' (S ++ [z]) → w.grownBy w' v.ownBlock → (v'.ownBlock = v.ownBlock ∨ v'.ownBlock = some w.heap.size) → (∀ w0, Below base w0 w → Below base w0 w') → wpList Tryd.prog ops Q rest (a.put o.dst v') w') : wpList Tryd.prog ops Q (o :: rest) a w := by
  have hown' : w.ownsRow base 65 5 v S.length ((flatS S).map (.int .i64)) := hown
  refine wpList_append_cells hgd s x ho eSteps hs hown' (some ⟨g, 0, none⟩) 1 1 [.int .i64 z.k, .int .i64 z.w, .int .i64 z.o, .int .i64 z.t, .int .i64 z.r] hx (fun _ => ⟨g, 0, rfl, fun j u hj => ?_⟩) rfl (fun u hu => ?_) (by omega) (by omega) hbase (fun v' w' hp => ?_)
  · rw [Nat.zero_add]
    exact hc.cell (by rw [← Array.getElem?_toList]; exact hj)
  · simp at hu; rcases hu with rfl | rfl | rfl | rfl | rfl <;> rfl
  · refine h v' w' ?_ hp.grew hp.block fun w0 hb => hp.below hown' hb hbase
    have := hp.own
    unfold OwnS
    rw [flatS_push, List.map_append, List.length_append]
    exact this
theorem step_ne_steps : (65 : TypeId) ≠ 23 := by decide
theorem step_ne_int : (65 : TypeId) ≠ 3 := by decide
theorem step_ne_f5 : (65 : TypeId) ≠ 77 := by decide
theorem step_ne_f1 : (65 : TypeId) ≠ 78 := by decide
abbrev fStep (B : Nat) : Value := .func (.func 43) #[] #[.pointer (some ⟨B, 0, none⟩)]
abbrev fMade (B : Nat) : Value := .func (.func 44) #[] #[.pointer (some ⟨B + 2, 0, none⟩), .pointer (some ⟨B + 1, 0, none⟩)]
/-- What Plan's closures share, behind block B: the steps, how many vertices, the closures themselves. -/
structure PlanW (B : Nat) (w0 w : World) (S : List GStep) (n : Nat) : Prop where
  below : Below B w0 w
  low : B ≤ w.heap.size
  out : ∃ v, BoxN w B 23 #[v] ∧ OwnS w B v S
  num : BoxN w (B + 1) 3 #[.int .i64 n]
  step : BoxN w (B + 2) 77 #[fStep B]
  made : BoxN w (B + 3) 78 #[fMade B]
section
variable {B : Nat} {w0 w : World} {S : List GStep} {n : Nat}
set_option maxHeartbeats 2000000 in
theorem PStep_any (h : PlanW B w0 w S n) (hS : S.length < 2 ^ 20) (s : GStep) :
    Calls Tryd.prog 43 #[.int .i64 s.k, .int .i64 s.w, .int .i64 s.o, .int .i64 s.t, .int .i64 s.r, .pointer (some ⟨B, 0, none⟩)] w fun e w' => e = .returned (.tuple #[]) ∧ PlanW B w0 w' (S ++ [s]) n := by
  obtain ⟨hbl, hlow, ⟨v, hb, hown⟩, hnum, hst, hmd⟩ := h
  obtain ⟨A, c, rfl, _⟩ := hown.form
  have x0 := hb.cell (k := 0) rfl
  have HB := Lib.hid hb
  have Hl := Lib.hid hbl
  have Hn := Lib.hid hnum
  have Hs := Lib.hid hst
  have Hm := Lib.hid hmd
  have Ho := Lib.hid hown
  obtain ⟨k, who, o, t, r⟩ := s
  have hw1 := hown.lt
  clear hb hbl hnum hst hmd
  go_enter Tryd.func43, Tryd.ntmps43
  go_wp2_with (at_builtin; refine wpList_push_step rfl _ _ rfl rfl (ownsRow_below hown ((Below.refl w.heap.size w).alloc (Nat.le_refl _) _) (Nat.le_refl _)) w.heap.size ⟨k, who, o, t, r⟩ rfl (BoxN.new _ _ _) (by omega) (by simp; omega) ?_; intro v2 w4 ho4 hg4 hv4 hbl4; obtain ⟨A2, c2, hv2e, _⟩ := ho4.form; subst hv2e; have hb4 : BoxN w4 B 23 #[_] := (hg4.block B (by have := HB.out.lt; simp; omega) (fun e => own_ne_box Ho.out HB.out step_ne_steps e.symm)).trans (HB.out.alloc _); have z1 := hb4.cell (k := 0) rfl; have zf := hb4.free 0)
  go_end0
  have other : ∀ {p : Nat} {t : TypeId} {vs : Array Value}, BoxN w p t vs → (65 : TypeId) ≠ t → p ≠ B → BoxN (w4.setCell ⟨B, 0, none⟩ (.slice A2 (S.length + 1) c2)) p t vs := fun {p t vs} hp ht hne =>
    BoxN.other ((hg4.block p (by have := hp.lt; simp; omega) (fun e => own_ne_box Ho.out hp ht e.symm)).trans (hp.alloc _)) (a := ⟨B, 0, none⟩) hne _
  have ho4' : OwnS w4 B (.slice A2 (S.length + 1) c2) (S ++ [⟨k, who, o, t, r⟩]) := by simpa using ho4
  refine ⟨rfl, (hbl4 w0 (Hl.out.alloc hlow _)).setCell (p := ⟨B, 0, none⟩) (Nat.le_refl _) _, ?_, ⟨_, hb4.set 0 _, ownsRow_setCell_other ho4' (own_ne_box ho4' hb4 step_ne_steps) _⟩, other Hn.out step_ne_int (by omega), other Hs.out step_ne_f5 (by omega), other Hm.out step_ne_f1 (by omega)⟩
  have := hg4.size
  simp at this ⊢; omega
set_option maxHeartbeats 2000000 in
theorem PMade_any (h : PlanW B w0 w S n) (hS : S.length < 2 ^ 20) (hn : n < 2 ^ 40) (who : Int) :
    Calls Tryd.prog 44 #[.int .i64 who, .pointer (some ⟨B + 2, 0, none⟩), .pointer (some ⟨B + 1, 0, none⟩)] w fun e w' => e = .returned (.int .i64 n) ∧ PlanW B w0 w' (S ++ [⟨2, who, 0, 0, 0⟩]) (n + 1) := by
  have HS := Lib.hid (PStep_any h hS ⟨2, who, 0, 0, 0⟩)
  have x2 := h.step.cell (k := 0) rfl
  clear h
  go_enter Tryd.func44, Tryd.ntmps44
  go_wp2_with fail
  refine HS.out.mono ?_
  rintro e w1 ⟨rfl, h1⟩
  have y1 := h1.num.cell (k := 0) rfl
  have yf := h1.num.free 0
  have H1 := Lib.hid h1
  clear h1 x2
  go_wp2_with fail
  go_ret
  have h1 := H1.out
  obtain ⟨v, hb, ho⟩ := h1.out
  have hnn : ((n : Int) + 1) = ((n + 1 : Nat) : Int) := by omega
  refine ⟨rfl, h1.below.setCell (p := ⟨B + 1, 0, none⟩) (by show B ≤ B + 1; omega) _, by have := h1.low; simpa using this, ⟨v, BoxN.other hb (a := ⟨B + 1, 0, none⟩) (by show B ≠ B + 1; omega) _, ownsRow_setCell_other ho (own_ne_box ho h1.num step_ne_int) _⟩, ?_, BoxN.other h1.step (a := ⟨B + 1, 0, none⟩) (by show B + 2 ≠ B + 1; omega) _, BoxN.other h1.made (a := ⟨B + 1, 0, none⟩) (by show B + 3 ≠ B + 1; omega) _⟩
  rw [← hnn]
  exact h1.num.set 0 _

/-- The steps by which rights pass from b to a; w is the next vertex. -/
def passL (L : List (List Int)) (a b : Nat) (to r : Int) (w : Nat) : List GStep :=
  if gN L a b &&& 1 ≠ 0 then [⟨0, a, b, to, r⟩]
  else if gN L b a &&& 2 ≠ 0 then [⟨1, b, a, to, r⟩]
  else [⟨2, a, 0, 0, 0⟩, if gN L b a &&& 1 ≠ 0 then ⟨0, b, a, w, 2⟩ else ⟨1, a, b, w, 2⟩, ⟨1, b, w, to, r⟩, ⟨0, a, w, to, r⟩]
def passN (L : List (List Int)) (a b : Nat) (w : Nat) : Nat := if gN L a b &&& 1 ≠ 0 then w else if gN L b a &&& 2 ≠ 0 then w else w + 1
end
end Go.Proofs.YtpfmllpodjcldaaDoor
