/-
  Contract: kernel.Load.
-/
import Derived.Test.YtanlmfnhlldkeaaGreatDoorKLdB
import Derived.Test.YtanlmfnhlldkeaaGreatDoorKerE
import Derived.Test.YtanlmfnhlldkeaaGreatDoorKLdP
import Derived.Test.YtanlmfnhlldkeaaGreatDoorKLdS
import Derived.Test.YtanlmfnhlldkeaaGreatDoorLoopA
import Derived.Deep.RegionHeld3
import Derived.OwnWalkIn
import Derived.RangeFuncWrites
namespace Go.Proofs.YtanlmfnhlldkeaaGreatDoor
open Go.RowKit
attribute [local go_sem] Oper.semAt_some
attribute [local simp, local go_sem] wide_fn
set_option maxRecDepth 100000
set_option linter.unusedVariables false

/-- What Load hands on. -/
def LoadPost (lo : Nat) (L : List (List Int)) (P : List Int) (q : Nat) (T : List Int) (r : Except Nat (List (List Int))) (e : Ending) (w' : World) : Prop := match r with
  | .error k => e = .returned (.tuple #[.pointer none, .iface 63 (.int .i64 k)])
  | .ok R => ∃ (p : Nat) (role : Nat → Nat) (hi : Nat) (K : KF), e = .returned (.tuple #[.pointer (some ⟨p, 0, none⟩), .nilIface]) ∧ KernAt role lo hi w' p K L P q T (stOf R L.length q) (tickOf R)
/-- A kernel that is being loaded: its lines. -/
structure LdSt (w2 : World) (a C t9 B : Nat) (rr : Nat → Nat) (A : Option Addr) (c : Nat) (Ls : List (List Int)) (xs : List Value) (W : World) : Prop where
  rw_ : Rws rr B W A c Ls xs
  b9 : BoxN W t9 28 #[.slice A Ls.length c]
  r1 : BoxN W (a + 1) 33 #[.pointer none]
  r2 : BoxN W (a + 1 + 1) 35 #[.nilIface]
  bw : Below w2.heap.size w2 W
  cl : B ≤ W.heap.size
theorem LdSt.but {w2 W W' : World} {a C t9 B c B' : Nat} {rr : Nat → Nat} {A : Option Addr} {Ls : List (List Int)} {xs : List Value} (h : LdSt w2 a C t9 B rr A c Ls xs W) (hB : w2.heap.size ≤ B') (hC : w2.heap.size ≤ C) (ha : a + 1 + 1 < C) (h9 : t9 ≠ C) (hCB : C < B) {row : Option Nat} (hg : W.grownBy W' row) (hr : ∀ r, row = some r → r = C ∨ (B' ≤ r ∧ ∃ o : Obj, W.heap[r]? = some o ∧ o.isCells = false)) :
    LdSt w2 a C t9 B rr A c Ls xs W' := by
  refine ⟨h.rw_.keep (fun b hb ho => hg.block b (by obtain ⟨o, ho, _⟩ := ho; exact (Array.getElem?_eq_some_iff.1 ho).1) fun e => ?_) hg.size, h.b9.but h9 hg hr, h.r1.but (by omega) hg hr, h.r2.but (by omega) hg hr, below_but h.bw hC hB hg hr h.bw.size, Nat.le_trans h.cl hg.size⟩
  obtain ⟨o, ho, hy⟩ := ho
  rcases hr b e.symm with e | ⟨_, o', ho', hn⟩
  · omega
  · rw [ho'] at ho
    injection ho with ho
    subst ho
    rw [hn] at hy
    cases hy
/-- An append of one slice to rows, in a fence. -/
theorem wpListIn_push_row {F : Fence} {nF : Nat} {w : World} {ops : Array Oper} {rest : List Oper} {o : Oper} {a : Act} {Q : Exit → Act → World → Prop} (hgd : o.guard = none) (s x : Operand)
    (ho : o.op = .call { callee := .builtin .append, args := #[s, x], argTypes := #[28, 28] })
    {base : Nat} {v : Value} {k : Nat} {xs : List Value} (hs : a.eval s = v) (hown : w.ownsRow base 24 1 v k xs) (g : Nat) (u : Value) (hu : u.oneCell' = true) (hx : a.eval x = .slice (some ⟨g, 0, none⟩) 1 1) (hc : w.cell? ⟨g, 0, none⟩ = some u)
    (hn : k < 2 ^ 40) (hbase : base ≤ w.heap.size)
    (h : ∀ v' w', Pushed w w' base 24 1 v v' k 1 xs [u] → wpListIn F nF Tryz.prog ops Q rest (a.put o.dst v') w') : wpListIn F nF Tryz.prog ops Q (o :: rest) a w := by
  have hcells : CellsAt w (some ⟨g, 0, none⟩) [u] := fun _ => ⟨g, 0, rfl, fun j y hj => by
    match j, hj with
    | 0, hj => simp at hj; subst hj; simpa using hc
    | j + 1, hj => simp at hj⟩
  refine wpListIn_plain hgd fun K hK => ?_
  obtain ⟨v', w', hrun, hp⟩ := run_append_cells w o.type eRowsI hown (some ⟨g, 0, none⟩) 1 1 [u] hcells rfl (fun y hy => by simp at hy; subst hy; exact hu) (by omega) (by omega) hbase
  unfold Oper.wpIn
  refine ⟨by simp [Oper.about, ho, resolve, Target.leads, Sem.run_pure], ?_⟩
  rw [Oper.semAt_plain F _ _ (by rw [ho]; intro c hc'; cases hc')]
  simp [execOp, ho, resolve, invoke, builtin, hs, hx, hrun, Result.andThen]
  exact hK _ _ (h v' w' hp)
theorem Rws.ne_box {rr : Nat → Nat} {B c : Nat} {Y : World} {A : Option Addr} {Ls : List (List Int)} {xs : List Value} (h : Rws rr B Y A c Ls xs) {b : Nat} {t : TypeId} {vs : Array Value} (hb : BoxN Y b t vs) (ht : t ≠ 24) : (Value.slice A Ls.length c).ownBlock ≠ some b := fun e => by
  rcases h.own.2 with ⟨hv, _⟩ | ⟨g', cap, cur', hv, hb', hc, _⟩
  · rw [hv] at e; simp [Value.ownBlock] at e
  · rw [hv] at e
    simp [Value.ownBlock] at e
    subst e
    have h2 : Y.heap[g']? = _ := hb
    rw [hc] at h2
    injection h2 with h2
    injection h2 with _ h2
    exact ht h2.symm
theorem Rws.room {rr : Nat → Nat} {B c : Nat} {Y : World} {A : Option Addr} {Ls : List (List Int)} {xs : List Value} (h : Rws rr B Y A c Ls xs) {V : World} {y : Value} (hb : Below Y.heap.size Y V) : Rws rr B V A c Ls xs := h.below hb
set_option maxHeartbeats 8000000 in
theorem Load_long {w : World} (hG : Glob w) {Ap Ao At : Option Addr} {L : List (List Int)} {P T : List Int} {q n m cp co ct : Nat} (hL : RowsIn anyB 3 w Ap L) (hP : IntsIn anyB w Ao P) (hl : P.length = q * 2) (hT : IntsIn anyB w At T)
    (hn : L.length = n) (hm : T.length = m) (h0 : sysCode L P q T = 0) (s : ByteArray) (h4 : 4000 < s.size) :
    Calls Tryz.prog 11 #[.agg #[.slice Ap n cp, .slice Ao q co, .slice At m ct], .string s] w fun e w' => e = .returned (.tuple #[.pointer none, .iface 63 (.int .i64 4)]) ∧ Below w.heap.size w w' := by
  have hok := sysOk h0
  have hp3 := hok.parts
  have hq6 := hok.few
  have ht4 := hok.turns
  have CN := Lib.hid (fun V (hV : Below w.heap.size w V) => New_ok (cp := cp) (co := co) (ct := ct) (hL.below hV) (hP.below hV) hl (hT.below hV) hn hm (by unfold maxLen; omega) (by unfold maxLen; omega) (by unfold maxLen; omega) h0)
  obtain ⟨W1, hW1⟩ : ∃ W1, ((w.alloc (.cells #[.slice Ap n cp, .slice Ao q co, .slice At m ct] 26)).alloc (.cells #[.pointer none] 33)).alloc (.cells #[.nilIface] 35) = W1 := ⟨_, rfl⟩
  have hr0 : BoxN W1 w.heap.size 26 #[.slice Ap n cp, .slice Ao q co, .slice At m ct] := by rw [← hW1]; exact ((BoxN.new w _ _).alloc _).alloc _
  have hr1 : BoxN W1 (w.heap.size + 1) 33 #[.pointer none] := by rw [← hW1]; exact (BoxN.new' _ _ _ _ (by simp)).alloc _
  have hr2 : BoxN W1 (w.heap.size + 1 + 1) 35 #[.nilIface] := by rw [← hW1]; exact BoxN.new' _ _ _ _ (by simp)
  have hb1 : Below w.heap.size w W1 := by rw [← hW1]; exact (((Below.refl _ _).alloc (Nat.le_refl _) _).alloc (by simp) _).alloc (by simp; omega) _
  have Hs1 := Lib.hid (show W1.heap.size = w.heap.size + 3 by rw [← hW1]; simp)
  have x0 := hr0.cell (k := 0) rfl
  have x1 := hr0.cell (k := 1) rfl
  have x2 := hr0.cell (k := 2) rfl
  have g0 : decide ((s.size : Int) > 4000) = true := by simp; omega
  clear hL hP hT h0 h4
  go_enter Tryz.func11, Tryz.ntmps11
  go_wp2_with fail
  try rw [hW1]
  clear hW1
  refine (CN.out W1 hb1).mono ?_
  rintro e w2 ⟨⟨p, rfl, -⟩, hb2⟩
  have Hb12 := Lib.hid (hb1.trans (hb2.mono hb1.size))
  have hr1' := hr1.all hb2
  have hr2' := hr2.all hb2
  have f1 := hr1'.free 0
  have f2 := hr2'.free 0
  have c1 := hr1'.cell (k := 0) rfl
  have c2 := hr2'.cell (k := 0) rfl
  have z1 := (((hr1'.set 0 (.pointer none)).other (a := ⟨w.heap.size + 1 + 1, 0, none⟩) (by simp) (.iface 63 (.int .i64 4)))).cell (k := 0) rfl
  have z2 := (((hr2'.other (a := ⟨w.heap.size + 1, 0, none⟩) (by simp) (.pointer none)).set 0 (.iface 63 (.int .i64 4)))).cell (k := 0) rfl
  have hbf : Below w.heap.size w ((w2.setCell ⟨w.heap.size + 1, 0, none⟩ (.pointer none)).setCell ⟨w.heap.size + 1 + 1, 0, none⟩ (.iface 63 (.int .i64 4))) := (Hb12.out.setCell (p := ⟨w.heap.size + 1, 0, none⟩) (by simp) _).setCell (p := ⟨w.heap.size + 1 + 1, 0, none⟩) (by show w.heap.size ≤ w.heap.size + 1 + 1; omega) _
  clear hr0 hr1 hr2 x0 x1 x2 CN hr1' hr2' hb1 hb2
  go_wp2_with fail
  generalize ((w2.setCell ⟨w.heap.size + 1, 0, none⟩ (.pointer none)).setCell ⟨w.heap.size + 1 + 1, 0, none⟩ (.iface 63 (.int .i64 4))) = w9 at *
  refine bodyPost_ret (v := .tuple #[.pointer none, .iface 63 (.int .i64 4)]) (by simp [results, Tryz.f11, go_sem, z1, z2]) rfl ?_
  exact ⟨rfl, hbf⟩
theorem Rws.cap {rr : Nat → Nat} {B c : Nat} {Y : World} {A : Option Addr} {Ls : List (List Int)} {xs : List Value} (h : Rws rr B Y A c Ls xs) : Ls.length ≤ c := by
  rcases h.own.2 with ⟨h0, h1⟩ | ⟨g, cap, cur, hv, hb, hg, hnc, _⟩
  · omega
  · injection hv with _ _ h3
    omega
theorem below_drewN {B : Nat} {w w' : World} (h : Below B w w') (n : Nat) : Below B w (w'.drewN n) := ⟨h.os, h.tape, h.output, h.size, h.block⟩
theorem five_of : ∀ {l : List Int}, ¬ l.length < 5 → ∃ v0 v1 v2 v3 v4 r, l = v0 :: v1 :: v2 :: v3 :: v4 :: r
  | v0 :: v1 :: v2 :: v3 :: v4 :: r, _ => ⟨v0, v1, v2, v3, v4, r, rfl⟩
  | [], h => absurd (by simp) h
  | [_], h => absurd (by simp) h
  | [_, _], h => absurd (by simp) h
  | [_, _, _], h => absurd (by simp) h
  | [_, _, _, _], h => absurd (by simp) h
/-- The way out, the results stored. -/
theorem load_out {w Y : World} {B D : Nat} {tmps : Array Value} {y1 y2 : Value} {R : Ending → World → Prop} (hD : B ≤ D) (hlt : w.heap.size + 1 + 1 < B) (hK : Y.heap[D]? = some (.deferred (some [])))
    (h1 : BoxN Y (w.heap.size + 1) 33 #[.pointer none]) (h2 : BoxN Y (w.heap.size + 1 + 1) 35 #[.nilIface]) (hb : Below w.heap.size w Y)
    (t4 : tmps[4]? = some (.pointer (some ⟨w.heap.size + 1, 0, none⟩))) (t5 : tmps[5]? = some (.pointer (some ⟨w.heap.size + 1 + 1, 0, none⟩)))
    (hR : ∀ w', QKeeps (fun k => k = D ∨ k = w.heap.size + 1 ∨ k = w.heap.size + 1 + 1) Y w' → Below w.heap.size w w' → R (.returned (.tuple #[y1, y2])) w') :
    bodyPostM Fence.wide 8 Tryz.prog Tryz.f11 R .ret ⟨tmps, [{ target := .collected D, args := #[] }]⟩ ((Y.setCell ⟨w.heap.size + 1, 0, none⟩ y1).setCell ⟨w.heap.size + 1 + 1, 0, none⟩ y2) := by
  have z1 := (h1.set 0 y1).other (a := ⟨w.heap.size + 1 + 1, 0, none⟩) (by simp) y2
  have z2 := (h2.other (a := ⟨w.heap.size + 1, 0, none⟩) (by simp) y1).set 0 y2
  have hM := (((MarksAt.nil (B := B) (w := Y)).cons hD (by simp) hK).setCell ⟨w.heap.size + 1, 0, none⟩ y1).setCell ⟨w.heap.size + 1 + 1, 0, none⟩ y2
  have hY : QKeeps (fun k => k = D ∨ k = w.heap.size + 1 ∨ k = w.heap.size + 1 + 1) Y ((Y.setCell ⟨w.heap.size + 1, 0, none⟩ y1).setCell ⟨w.heap.size + 1 + 1, 0, none⟩ y2) := ((QKeeps.refl _ Y).setCell (p := ⟨w.heap.size + 1, 0, none⟩) (.inr (.inl rfl)) y1).setCell (p := ⟨w.heap.size + 1 + 1, 0, none⟩) (.inr (.inr rfl)) y2
  generalize ((Y.setCell ⟨w.heap.size + 1, 0, none⟩ y1).setCell ⟨w.heap.size + 1 + 1, 0, none⟩ y2) = Y2 at *
  refine leaves_marksQ (B := B) [D] Y2 hM fun w' hq' => ?_
  have d1 := (hq'.box z1 (fun hh => by have := List.mem_singleton.1 hh; omega)).cell (k := 0) rfl
  have d2 := (hq'.box z2 (fun hh => by have := List.mem_singleton.1 hh; omega)).cell (k := 0) rfl
  have hq := hY.trans hq' (fun b hb => .inl (.inl (List.mem_singleton.1 hb)))
  refine ⟨.tuple #[y1, y2], by simp [results, Tryz.f11, go_sem, t4, t5, d1, d2], hR w' hq (hq.to_below (fun k hk => by rcases hk with rfl | rfl | rfl <;> omega) hb hb.size)⟩
set_option maxHeartbeats 16000000 in
theorem Load_short {w : World} (hG : Glob w) {Ap Ao At : Option Addr} {L : List (List Int)} {P T : List Int} {q n m cp co ct : Nat} (hL : RowsIn anyB 3 w Ap L) (hP : IntsIn anyB w Ao P) (hl : P.length = q * 2) (hT : IntsIn anyB w At T)
    (hn : L.length = n) (hm : T.length = m) (h0 : sysCode L P q T = 0) (s : ByteArray) (h4 : s.size ≤ 4000) :
    Calls Tryz.prog 11 #[.agg #[.slice Ap n cp, .slice Ao q co, .slice At m ct], .string s] w fun e w' => LoadPost w.heap.size L P q T (loadK s.data.toList n q) e w' ∧ Below w.heap.size w w' := by
  refine (callsIn_wide (n := 8)).1 ?_
  have hok := sysOk h0
  have hp3 := hok.parts
  have hq6 := hok.few
  have ht4 := hok.turns
  have CN := Lib.hid (fun V (hV : Below w.heap.size w V) => New_ok (cp := cp) (co := co) (ct := ct) (hL.below hV) (hP.below hV) hl (hT.below hV) hn hm (by unfold maxLen; omega) (by unfold maxLen; omega) (by unfold maxLen; omega) h0)
  obtain ⟨W1, hW1⟩ : ∃ W1, ((w.alloc (.cells #[.slice Ap n cp, .slice Ao q co, .slice At m ct] 26)).alloc (.cells #[.pointer none] 33)).alloc (.cells #[.nilIface] 35) = W1 := ⟨_, rfl⟩
  have hr0 : BoxN W1 w.heap.size 26 #[.slice Ap n cp, .slice Ao q co, .slice At m ct] := by rw [← hW1]; exact ((BoxN.new w _ _).alloc _).alloc _
  have hr1 : BoxN W1 (w.heap.size + 1) 33 #[.pointer none] := by rw [← hW1]; exact (BoxN.new' _ _ _ _ (by simp)).alloc _
  have hr2 : BoxN W1 (w.heap.size + 1 + 1) 35 #[.nilIface] := by rw [← hW1]; exact BoxN.new' _ _ _ _ (by simp)
  have hb1 : Below w.heap.size w W1 := by rw [← hW1]; exact (((Below.refl _ _).alloc (Nat.le_refl _) _).alloc (by simp) _).alloc (by simp; omega) _
  have Hs1 := Lib.hid (show W1.heap.size = w.heap.size + 3 by rw [← hW1]; simp)
  have x0 := hr0.cell (k := 0) rfl
  have x1 := hr0.cell (k := 1) rfl
  have x2 := hr0.cell (k := 2) rfl
  obtain ⟨Lc, z, hcut, hlines, hfree, hz⟩ := lines_cut s.data.toList
  refine callsIn_of_wp_marks Tryz.func11 rfl trivial ?_ rfl
  simp only [Tryz.ntmps11, List.size_toArray, List.length_cons, List.length_nil, Nat.reduceAdd, Nat.reduceSub, Array.replicate_succ, Array.replicate_zero, List.push_toArray, List.append_toArray, List.nil_append, List.cons_append]
  have Hlines := Lib.hid hlines
  have Hcut := Lib.hid hcut
  have Hfree := Lib.hid hfree
  have Hz := Lib.hid hz
  clear hlines hcut hfree hz hL hP hT h0
  gi_wp2_with fail
  try rw [hW1]
  clear hW1
  refine (callsIn_wide.2 (CN.out W1 hb1)).mono ?_
  rintro e w2 ⟨⟨p, rfl, hNew⟩, hb2⟩
  have Hb12 := Lib.hid (hb1.trans (hb2.mono hb1.size))
  have HNew := Lib.hid hNew
  have hr1' := hr1.all hb2
  have hr2' := hr2.all hb2
  have Hs2 := Lib.hid (show w.heap.size + 3 ≤ w2.heap.size by rw [← Hs1.out]; exact hb2.size)
  have f1 := hr1'.free 0
  have f2 := hr2'.free 0
  have c1 := hr1'.cell (k := 0) rfl
  have c2 := hr2'.cell (k := 0) rfl
  clear hNew hr0 hr1 hr2 x0 x1 x2 CN
  have g0 : decide ((s.size : Int) > 4000) = false := by simp; omega
  have q9 : BoxN (w2.alloc (.cells #[.slice none 0 0] 28)) w2.heap.size 28 #[.slice none 0 0] := BoxN.new _ _ _
  have hba : Below w2.heap.size w2 (w2.alloc (.cells #[.slice none 0 0] 28)) := (Below.refl _ _).alloc (Nat.le_refl _) _
  have hs3 : (w2.alloc (.cells #[.slice none 0 0] 28)).heap.size = w2.heap.size + 1 := by simp
  gi_wp2_with fail
  generalize w2.alloc (.cells #[.slice none 0 0] 28) = w3 at *
  refine (callsIn_wide.2 (Lines_any s w3)).mono ?_
  rintro e w4 ⟨rfl, rfl⟩
  have hbX : Below w3.heap.size w3 (w3.alloc (.cells #[.string s] 9)) := (Below.refl _ _).alloc (Nat.le_refl _) _
  have hxd : BoxN (w3.alloc (.cells #[.string s] 9)) w3.heap.size 9 #[.string s] := BoxN.new _ _ _
  have hsX : (w3.alloc (.cells #[.string s] 9)).heap.size = w3.heap.size + 1 := by simp
  generalize w3.alloc (.cells #[.string s] 9) = X at *
  have hb2X := hba.trans (hbX.mono hba.size)
  have hs2 := Hs2.out
  have hSt0 : LdSt w2 w.heap.size w3.heap.size w2.heap.size X.heap.size (fun _ => 0) none 0 [] [] X := ⟨Rws.nil _ _, q9.all hbX, hr1'.all hb2X, hr2'.all hb2X, hb2X, Nat.le_refl _⟩
  have hC1 : w2.heap.size ≤ w3.heap.size := by omega
  have h9C : w2.heap.size ≠ w3.heap.size := by omega
  have hCa : w.heap.size + 1 + 1 < w3.heap.size := by omega
  have hCX : w3.heap.size < X.heap.size := by omega
  have h9X : w2.heap.size < X.heap.size := by omega
  have hX2 : w2.heap.size ≤ X.heap.size := by omega
  have hwX : w.heap.size + 1 + 1 < X.heap.size := by omega
  have h92 : w.heap.size + 1 + 1 < w2.heap.size := by omega
  have HbX := Lib.hid hb2X
  clear q9 hba hs3 hbX hsX hb2X hr1' hr2' hs2 c1 c2 f1 f2
  generalize w3.heap.size = C at *
  gi_wp2_with fail
  refine wp_lines1 (by decide) 9 (C := C) (s := s) rfl hxd (by omega)
    (fun pre Y => ∃ rr A c Ls xs, pre.length ≤ Lc.length ∧ Hid (rowsK (Lc.take pre.length) = .ok Ls) ∧ LdSt w2 w.heap.size C w2.heap.size X.heap.size rr A c Ls xs Y)
    (fun cd _ Y => cd = .ret ∧ ∃ (k : Nat), Hid (loadK s.data.toList n q = .error k) ∧ BoxN Y (w.heap.size + 1) 33 #[.pointer none] ∧ BoxN Y (w.heap.size + 1 + 1) 35 #[.iface 63 (.int .i64 k)] ∧ Below w.heap.size w Y)
    ?hI ?hIx ?h0 ?assign ?body ?done ?stop
  case hI =>
    rintro pre Y Y' row ⟨rr, A, c, Ls, xs, g1, g2, g3⟩ hg hr
    exact ⟨rr, A, c, Ls, xs, g1, g2, g3.but hX2 hC1 hCa h9C hCX hg hr⟩
  case hIx =>
    rintro cd pre Y Y' row ⟨rfl, k, g1, g2, g3, g4⟩ hg hr
    exact ⟨rfl, k, g1, g2.but (by omega) hg hr, g3.but (by omega) hg hr, below_but g4 (by omega) (by omega) hg hr g4.size⟩
  case h0 => exact ⟨_, _, _, _, _, Nat.zero_le _, Lib.hid rfl, hSt0⟩
  case assign =>
    intro l x Y K hK
    gi_wp2
    exact hK
  case body =>
    rintro l pre x Y ⟨rr, A, c, Ls, xs, g1, g2, g3⟩ hok
    have hxi : (linesB s)[pre.length]? = some x := by
      obtain ⟨t, ht⟩ := hok
      rw [← ht]
      simp
    unfold linesB at hxi
    rw [Hlines.out, List.getElem?_map] at hxi
    obtain ⟨xl, hxl, hxe⟩ := Option.map_eq_some_iff.1 hxi
    have hbYw : Below w.heap.size w Y := Hb12.out.trans (g3.bw.mono Hb12.out.size)
    have c9 : Y.cell? ⟨w2.heap.size, 0, none⟩ = some (.slice A Ls.length c) := g3.b9.cell rfl
    clear hxi hok
    by_cases hj : pre.length < Lc.length
    · obtain ⟨yl, hyl⟩ : ∃ yl, Lc[pre.length]? = some yl := ⟨_, List.getElem?_eq_getElem hj⟩
      have hxl2 : xl = yl ++ [10] := by
        rw [List.getElem?_append_left (by rw [List.length_map]; exact hj), List.getElem?_map, hyl] at hxl
        injection hxl with hxl
        exact hxl.symm
      subst hxl2
      have hlen : yl.length ≤ s.size := by
        have := cutL_le 10 s.data.toList yl (by rw [Hcut.out]; exact List.mem_append_left _ (List.mem_of_getElem? hyl))
        rwa [← ba_size] at this
      have hxd2 : x.data.toList = yl ++ [10] := by rw [← hxe]
      have hxs : x.size ≤ 9223372036854775807 := by rw [ba_size, hxd2, List.length_append, List.length_singleton]; omega
      obtain ⟨y, hy⟩ : ∃ y : ByteArray, y.data.toList = yl := ⟨⟨yl.toArray⟩, ba_of yl⟩
      have hys : y.size ≤ 1000000 := by rw [ba_size, hy]; omega
      have CC := Lib.hid (CutSuffix_any x hxs (y := y) (b := true) (.inl ⟨rfl, by rw [hxd2, hy]⟩) Y)
      have CL := NumsK_any hG hbYw y hys
      rw [hy] at CL
      have HCL := Lib.hid CL
      have Hsp := Lib.hid (split_at hyl)
      have Htk := Lib.hid (take_succ_getD hyl)
      have Hg3 := Lib.hid g3
      have hLl : Ls.length ≤ 4001 := by
        have h1 := (rowsK_ok g2.out).1
        have h2 := cutL_length 10 s.data.toList
        rw [Hcut.out, List.length_append, List.length_singleton] at h2
        have h3 := List.count_le_length (a := (10 : UInt8)) (l := s.data.toList)
        rw [← ba_size] at h3
        rw [h1, List.length_take]
        omega
      have HbYw := Lib.hid hbYw
      clear CL hy hys hxd2 hxe hxl hlen g3 hxs hyl hbYw
      gi_wp2_with fail
      refine (callsIn_wide.2 CC.out).mono ?_
      rintro e w5 ⟨rfl, rfl⟩
      gi_wp2_with fail
      refine (callsIn_wide.2 HCL.out).mono ?_
      rintro e w6 ⟨hnum, hb6⟩
      have hYs := Hg3.out.cl
      have c96 := (hb6.cell (p := ⟨w2.heap.size, 0, none⟩) (block_lt c9)).trans c9
      have b96 := Hg3.out.b9.all hb6
      have r16 := Hg3.out.r1.all hb6
      have r26 := Hg3.out.r2.all hb6
      have HR6 := Lib.hid (Hg3.out.rw_.below hb6)
      have Hb6 := Lib.hid hb6
      have f96 := b96.free 0
      have HC6 : KeepC C Y w6 := hb6.block C (by omega)
      cases hr : rowK yl with
      | ok lr =>
        rw [hr] at hnum
        obtain ⟨A1, c1, rfl, hown⟩ := hnum
        have Hown := Lib.hid hown
        have Hall := Lib.hid (show rowsK (Lc.take (pre.length + 1)) = .ok (Ls ++ [lr]) by rw [Htk.out]; exact rowsK_snoc g2.out hr)
        have Hba := Lib.hid ((Below.refl w6.heap.size w6).alloc (Nat.le_refl _) (.cells #[.slice A1 lr.length c1] 24))
        clear hr hown hb6 CC HCL c9
        have HR6a := Lib.hid (HR6.out.below Hba.out)
        have ba9 := b96.all Hba.out
        have ra1 := r16.all Hba.out
        have ra2 := r26.all Hba.out
        have hnb := HR6a.out.ne_box ba9 (by decide)
        have hn1 := HR6a.out.ne_box ra1 (by decide)
        have hn2 := HR6a.out.ne_box ra2 (by decide)
        have HN := Lib.hid (And.intro hnb (And.intro hn1 hn2))
        have Hb9 := Lib.hid ba9
        have Hr1 := Lib.hid ra1
        have Hr2 := Lib.hid ra2
        clear ba9 ra1 ra2 hnb hn1 hn2 b96 r16 r26
        gi_wp2_with (gi_at_builtin; refine wpListIn_push_row rfl _ _ rfl rfl HR6a.out.own w6.heap.size (.slice A1 lr.length c1) rfl rfl (cell_of_row _ _ 0 _ _ _ (heap_alloc_new _ _)) (by omega) (by simp; have := Hb6.out.size; omega) ?_; intro v7 w7 hp7; obtain ⟨A7, c7, rfl⟩ := ownsRow_form hp7.own; have b97 : BoxN w7 w2.heap.size 28 #[.slice A Ls.length c] := (hp7.grew.block _ Hb9.out.lt (fun e => HN.out.1 e.symm)).trans Hb9.out; have c97 := b97.cell (k := 0) rfl; have f97 := b97.free 0; have HP7 := Lib.hid hp7; clear hp7)
        have hp7 := HP7.out
        have hgB : ∀ g, (Value.slice A Ls.length c).ownBlock = some g → X.heap.size ≤ g ∧ g < Y.heap.size ∧ ∃ o : Obj, Y.heap[g]? = some o ∧ o.isCells = true := fun g hg => Hg3.out.rw_.aCells hg
        obtain ⟨rr', A', c', hv7, hR'⟩ := HR6a.out.push rfl ((Hown.out.low Hg3.out.cl).next Hba.out) (fun g e => by
          rcases Nat.eq_zero_or_pos (rr g) with h | h
          · exact h
          · exfalso
            obtain ⟨_, cur, fr, hc⟩ := Hg3.out.rw_.low g (by omega)
            have h1 := (Array.getElem?_eq_some_iff.1 hc).1
            have h2 : w6.ownsRow Y.heap.size 3 1 (.slice A1 lr.length c1) lr.length (lr.map (.int .i64)) := Hown.out
            have h3 := (h2.lt g (by rw [e]; rfl)).1
            omega) hp7
        obtain ⟨e1, e2⟩ : A7 = A' ∧ c7 = c' := by injection hv7 with a b d; exact ⟨a, d⟩
        rw [← e1, ← e2] at hR'
        clear hv7 e1 e2
        have hqk : QKeeps (fun k => k = w2.heap.size ∨ (Value.slice A Ls.length c).ownBlock = some k) Y (w7.setCell ⟨w2.heap.size, 0, none⟩ (.slice A7 (Ls.length + 1) c7)) :=
          (((QKeeps.of_below Hb6.out).alloc _).grown hp7.grew (fun g e => .inl (.inr e))).setCell (p := ⟨w2.heap.size, 0, none⟩) (.inl rfl) _
        have hce : CellsIn (fun k => k = w2.heap.size ∨ (Value.slice A Ls.length c).ownBlock = some k) Y := by
          rintro k (rfl | hk)
          · exact ⟨_, Hg3.out.b9, rfl⟩
          · exact (hgB k hk).2.2
        have hs7 : Y.heap.size ≤ w7.heap.size := by have h1 := hp7.grew.size; have h2 := Hb6.out.size; simp at h1; omega
        refine ⟨keepsFrom_of hqk hce, hqk.block C (by omega) (fun e => e.elim (fun e => h9C e.symm) (fun e => by have := (hgB C e).1; omega)), rr', A7, c7, Ls ++ [lr], xs ++ [.slice A1 lr.length c1], by rw [List.length_append, List.length_singleton]; omega, by rw [List.length_append, List.length_singleton]; exact Hall, ?_⟩
        refine ⟨hR'.keep (fun b hb _ => Below.heap_setCell w7 ⟨w2.heap.size, 0, none⟩ _ b (by show b ≠ w2.heap.size; omega)) (by simp), ?_, ?_, ?_, ?_, ?_⟩
        · have := b97.set 0 (.slice A7 (Ls.length + 1) c7)
          rw [List.length_append, List.length_singleton]
          exact this
        · exact BoxN.other (a := ⟨w2.heap.size, 0, none⟩) ((hp7.grew.block _ Hr1.out.lt (fun e => HN.out.2.1 e.symm)).trans Hr1.out) (by show w.heap.size + 1 ≠ w2.heap.size; omega) _
        · exact BoxN.other (a := ⟨w2.heap.size, 0, none⟩) ((hp7.grew.block _ Hr2.out.lt (fun e => HN.out.2.2 e.symm)).trans Hr2.out) (by show w.heap.size + 1 + 1 ≠ w2.heap.size; omega) _
        · exact hqk.to_below (fun k hk => hk.elim (fun e => Nat.le_of_eq e.symm) (fun e => by have := (hgB k e).1; omega)) Hg3.out.bw Hg3.out.bw.size
        · simp; omega
      | error k =>
        rw [hr] at hnum
        obtain rfl := hnum
        have HE := Lib.hid (load_rows_bad Hcut.out (by rw [← ba_size]; exact h4) n q (by rw [Hsp.out]; exact rowsK_bad _ g2.out hr))
        have c1 := r16.cell (k := 0) rfl
        have c2 := r26.cell (k := 0) rfl
        have f1 := r16.free 0
        have f2 := r26.free 0
        clear hr CC HCL c9 c96 f96 b96
        gi_wp2_with fail
        have z1 := (r16.set 0 (.pointer none)).other (a := ⟨w.heap.size + 1 + 1, 0, none⟩) (by simp) (.iface 63 (.int .i64 k))
        have z2 := (r26.other (a := ⟨w.heap.size + 1, 0, none⟩) (by simp) (.pointer none)).set 0 (.iface 63 (.int .i64 k))
        have hbw := HbYw.out.trans (hb6.mono HbYw.out.size)
        exact ⟨(((keepsOthers_below hb6).trans (KeepsOthers.setCell _ _ _)).trans (KeepsOthers.setCell _ _ _)).from _, rfl, k, HE, z1, z2, (hbw.setCell (p := ⟨w.heap.size + 1, 0, none⟩) (by simp) _).setCell (p := ⟨w.heap.size + 1 + 1, 0, none⟩) (by show w.heap.size ≤ w.heap.size + 1 + 1; omega) _⟩
    · have hj2 : pre.length = Lc.length := by omega
      rw [List.getElem?_append_right (by rw [List.length_map]; omega), List.length_map, hj2, Nat.sub_self] at hxl
      have hzn : z ≠ [] := fun e => by rw [e] at hxl; simp at hxl
      rw [if_neg hzn] at hxl
      injection hxl with hxl
      subst hxl
      have hxd2 : x.data.toList = z := by rw [← hxe]
      have hlen : z.length ≤ s.size := by
        have := cutL_le 10 s.data.toList z (by rw [Hcut.out]; exact List.mem_append_right _ (List.mem_singleton_self _))
        rwa [← ba_size] at this
      have hxs : x.size ≤ 9223372036854775807 := by rw [ba_size, hxd2]; omega
      have CC := Lib.hid (CutSuffix_any x hxs (y := x) (b := false) (.inr ⟨rfl, rfl, by rw [hxd2]; exact Hz.out⟩) Y)
      have hall := g2.out
      rw [hj2, List.take_length] at hall
      have HE := Lib.hid (load_end_bad Hcut.out (by rw [← ba_size]; exact h4) n q hall hzn)
      have c1 := g3.r1.cell (k := 0) rfl
      have c2 := g3.r2.cell (k := 0) rfl
      have f1 := g3.r1.free 0
      have f2 := g3.r2.free 0
      have Hg3 := Lib.hid g3
      have HbYw := Lib.hid hbYw
      clear hall hxe hxd2 hxs g3 hbYw hlen hzn g2 c9
      gi_wp2_with fail
      refine (callsIn_wide.2 CC.out).mono ?_
      rintro e w5 ⟨rfl, rfl⟩
      gi_wp2_with fail
      have z1 := (Hg3.out.r1.set 0 (.pointer none)).other (a := ⟨w.heap.size + 1 + 1, 0, none⟩) (by simp) (.iface 63 (.int .i64 2))
      have z2 := (Hg3.out.r2.other (a := ⟨w.heap.size + 1, 0, none⟩) (by simp) (.pointer none)).set 0 (.iface 63 (.int .i64 2))
      exact ⟨((KeepsOthers.setCell _ _ _).trans (KeepsOthers.setCell _ _ _)).from _, rfl, 2, HE, z1, z2, (HbYw.out.setCell (p := ⟨w.heap.size + 1, 0, none⟩) (by simp) _).setCell (p := ⟨w.heap.size + 1 + 1, 0, none⟩) (by show w.heap.size ≤ w.heap.size + 1 + 1; omega) _⟩
  case done =>
    rintro D Z hD ⟨rr, A, c, Ls, xs, g1, g2, g3⟩ hK
    have hz0 : z = [] := by
      by_cases h : z = []
      · exact h
      · exfalso
        unfold linesB at g1
        rw [Hlines.out, if_neg h] at g1
        simp at g1
        omega
    have hend : rowsK Lc = .ok Ls := by
      have h2 := g2.out
      unfold linesB at h2
      rw [Hlines.out, if_pos hz0] at h2
      simpa using h2
    have hload : loadK s.data.toList n q = if shapeK Ls n q = 0 then .ok Ls else .error (shapeK Ls n q) := load_rows_ok (by rw [← hz0]; exact Hcut.out) (by rw [← ba_size]; exact h4) n q hend
    have Hload := Lib.hid hload
    have hLl : Ls.length ≤ 4001 := by
      have h1 := (rowsK_ok hend).1
      have h2 := cutL_length 10 s.data.toList
      rw [Hcut.out, List.length_append, List.length_singleton] at h2
      have h3 := List.count_le_length (a := (10 : UInt8)) (l := s.data.toList)
      rw [← ba_size] at h3
      omega
    have hnums : ∀ l ∈ Ls, Nums6 l ∧ l.length ≤ 4001 := fun l hl => by
      obtain ⟨h1, x, hx, h2⟩ := (rowsK_ok hend).2 l hl
      have h3 := cutL_le' 10 (t := s.data.toList) (x := x) (by rw [Hcut.out]; exact List.mem_append_left _ hx)
      rw [← ba_size] at h3
      exact ⟨h1, by omega⟩
    obtain ⟨gp, gh, K, hK0⟩ := HNew.out
    have hK1 : KernAt (roleL (roleNew p gp gh) X.heap.size n rr) W1.heap.size w2.heap.size Z p K L P q T (stG Ls n 0 0) 0 := hK0.begin g3.bw g3.rw_ hX2 g3.cl
    gi_step
    gi_step
    refine wpIn_wide.2 ?_
    obtain ⟨-, -, -, y3, y4, y6⟩ := hK1.words
    have y5 := hK1.box.free 5
    rw [hn] at y3
    have c9 : Z.cell? ⟨w2.heap.size, 0, none⟩ = some (.slice A Ls.length c) := g3.b9.cell rfl
    have u1 := g3.r1.cell (k := 0) rfl
    have u2 := g3.r2.cell (k := 0) rfl
    have f1 := g3.r1.free 0
    have f2 := g3.r2.free 0
    have hn0 : (0 : Int) ≤ n := by omega
    have hq0 : (0 : Int) ≤ q := by omega
    have Hnums := Lib.hid hnums
    have Hg3 := Lib.hid g3
    have HK1 := Lib.hid hK1
    have HK0 := Lib.hid hK0
    clear hnums g3 hK1 hK0 hz0 hend hload g2 g1
    by_cases hlen : Ls.length = 1 + n + q
    · have hle : (Ls.length : Int) = 1 + (n : Int) + (q : Int) := by omega
      have hne : ((Ls.length : Int) != 1 + (n : Int) + (q : Int)) = false := by simp; omega
      have hnn : (n : Int) ≤ 5 := by omega
      have hqq : (q : Int) ≤ 6 := by omega
      obtain ⟨ga, hA, hga, hga2, hcl⟩ := Hg3.out.rw_.bnd (fun e => by rw [e, List.length_nil] at hlen; omega)
      have hxl := Hg3.out.rw_.xl
      have hrow : ∀ j, j < 1 + n + q → ∃ l A1 c1, Ls.getD j [] = l ∧ l ∈ Ls ∧ Z.cell? ⟨ga, j, none⟩ = some (.slice A1 l.length c1) ∧ RowW rr (j + 1) Z (.slice A1 l.length c1) l ∧ (∀ b, j = 1 + n + b → RowW (roleL (roleNew p gp gh) X.heap.size n rr) (5 + 2 * b) Z (.slice A1 l.length c1) l) := fun j hj => by
        obtain ⟨x, hx⟩ : ∃ x, xs[j]? = some x := ⟨_, List.getElem?_eq_getElem (i := j) (by omega)⟩
        obtain ⟨l, hl⟩ : ∃ l, Ls[j]? = some l := ⟨_, List.getElem?_eq_getElem (i := j) (by omega)⟩
        have hr := Hg3.out.rw_.row j x l hx hl
        have e : Ls.getD j [] = l := by rw [List.getD_eq_getElem?_getD, hl]; rfl
        obtain ⟨A1, c1, rfl, _⟩ := hr.form
        exact ⟨l, A1, c1, e, List.mem_of_getElem? hl, hcl j _ hx, hr, fun b hb => by subst hb; exact Hg3.out.rw_.port hx hl⟩
      have Hrow := Lib.hid hrow
      obtain ⟨l0, A0, c0, hl0, hm0, m0, hr0, -⟩ := hrow 0 (by omega)
      subst hA
      have hmn : (0 : Int) < Ls.length := by omega
      have hmn' : 0 < Ls.length := by omega
      clear hrow hcl hxl
      by_cases h01 : l0.length = 1
      · have g01 : ((l0.length : Int) != 1) = false := by simp; omega
        obtain ⟨v0, rfl⟩ : ∃ v, l0 = [v] := by
          match l0, h01 with
          | [v], _ => exact ⟨v, rfl⟩
        obtain ⟨g0, o0, rfl, m00⟩ : ∃ g off, A0 = some ⟨g, off, none⟩ ∧ Z.cell? ⟨g, off, none⟩ = some (.int .i64 v0) := by
          rcases hr0 with ⟨h, h'⟩ | ⟨g, off, cc, cur, h1, h2, h3, h4, h5, h6, h7⟩
          · cases h'
          · injection h1 with h1
            exact ⟨g, off, h1, by rw [cell_of_row Z g off cur _ _ h4]; exact h7 0 v0 rfl⟩
        have hv0 := (Hnums.out _ hm0).1 v0 (List.mem_singleton_self _)
        have Hl0 := Lib.hid hl0
        have hlen1 : [v0].length = 1 := rfl
        rw [hlen1] at m0 g01
        clear hr0 hm0 hl0 h01
        obtain ⟨t0, rfl⟩ : ∃ t : Nat, v0 = t := ⟨v0.toNat, by omega⟩
        by_cases h300 : t0 ≤ 300
        · have g3 : decide ((t0 : Int) > 300) = false := by simp; omega
          obtain ⟨⟨p1, p2⟩, ⟨p3, p4⟩, p5, p6⟩ := HK1.out.inn
          have pne := HK1.out.ne
          have np : ¬ w2.heap.size = p := by omega
          have hcap : Ls.length ≤ c := Hg3.out.rw_.cap
          have hcap1 : (1 : Int) + n ≤ c := by omega
          have hcap2 : (1 : Int) + n + q ≤ c := by omega
          have hcap3 : (1 : Int) ≤ c := by omega
          have hcap4 : 1 + n ≤ c := by omega
          have hcap5 : ¬ c = 1 := by omega
          have HT0 := Lib.hid (fun nq => ((LdK.start HK1.out).drewN nq).tick t0)
          have HR1 := Lib.hid (show ∀ b j, roleL (roleNew p gp gh) X.heap.size n rr b = 5 + 2 * j → b ≠ p ∧ b ≠ K.gp ∧ b ≠ K.gh from fun b j hb => ⟨fun e => by rw [e, HK1.out.rp] at hb; omega, fun e => by rw [e, HK1.out.rgp] at hb; omega, fun e => by rw [e, HK1.out.rgh] at hb; omega⟩)
          have HP1 := Lib.hid HK1.out.parts
          have hgp2 : ¬ w2.heap.size = K.gp := by omega
          have hgh2 : ¬ w2.heap.size = K.gh := by omega
          have hs13 := Hs1.out
          have HF := Lib.hid (show ∀ (V : World) (s : KState), LdK (roleL (roleNew p gp gh) X.heap.size n rr) W1.heap.size w2.heap.size Z V p K L P q T s t0 →
              V.cell? ⟨w2.heap.size, 0, none⟩ = some (.slice (some ⟨ga, 0, none⟩) Ls.length c) ∧ V.cell? ⟨p, 3, none⟩ = some (.slice (some ⟨K.gp, 0, none⟩) n n) ∧ V.cell? ⟨p, 4, none⟩ = some (.slice (some ⟨K.gh, 0, none⟩) q q) ∧
              V.heap[D]? = some (.deferred (some [])) ∧ BoxN V (w.heap.size + 1) 33 #[.pointer none] ∧ BoxN V (w.heap.size + 1 + 1) 35 #[.nilIface] ∧ Below w.heap.size w V ∧ (∀ b, X.heap.size ≤ b → b < Z.heap.size → V.heap[b]? = Z.heap[b]?) from fun V s h => by
            obtain ⟨role, k1, k2, k3⟩ := h
            have hk : ∀ b, X.heap.size ≤ b → b < Z.heap.size → V.heap[b]? = Z.heap[b]? := fun b h1 h2 => k3.block b h2 (fun e => by rcases e with e | e | e <;> omega)
            obtain ⟨-, -, -, z3, z4, -⟩ := k1.words
            rw [hn] at z3
            refine ⟨(k3.box Hg3.out.b9 (fun e => by rcases e with e | e | e <;> omega)).cell (k := 0) rfl, z3, z4, (hk D hD (Array.getElem?_eq_some_iff.1 hK).1).trans hK, k3.box Hg3.out.r1 (fun e => by rcases e with e | e | e <;> omega), k3.box Hg3.out.r2 (fun e => by rcases e with e | e | e <;> omega), k3.to_below (fun b e => by rcases e with e | e | e <;> omega) (Hb12.out.trans (Hg3.out.bw.mono Hb12.out.size)) (by have := Hb12.out.size; have := Hg3.out.bw.size; omega), hk⟩)
          have HXg := Lib.hid hga
          clear hs13
          have HRD := Lib.hid (show roleL (roleNew p gp gh) X.heap.size n rr D = 0 by
            unfold roleL
            rw [if_neg (by omega), if_neg fun h2 => ?_]
            obtain ⟨_, cur, fr, hc⟩ := Hg3.out.rw_.low D (by omega)
            rw [hK] at hc
            cases hc)
          generalize roleL (roleNew p gp gh) X.heap.size n rr = R1 at *
          go_wp2_with fail
          go_quiet (fail)
          go_wp2_with fail
          simp only [Nat.add_sub_cancel_left]
          go_loopw [15, 16, 98] (fun _ _ i wr => ∃ a : Nat, a ≤ n ∧ i = .int .i64 a ∧ Hid (LdK R1 W1.heap.size w2.heap.size Z wr p K L P q T (stG Ls n a 0) t0) ∧ Hid (∀ b, b < a → partC Ls b = 0)) (fun _ _ i _ => n - (intOf i).toNat)
          case atStart => exact ⟨0, Nat.zero_le _, rfl, Lib.hid (HT0.out _), Lib.hid fun b hb => absurd hb (Nat.not_lt_zero _)⟩
          case round =>
            clear y3 y4 y5 y6 c9 u1 u2 f1 f2 m0 m00 hne g01 g3
            obtain ⟨a, ha, rfl, HLd, Hpc⟩ := hrel
            obtain ⟨e9, e3, e4, eD, eb1, eb2, ebw, eK⟩ := HF.out _ _ HLd.out
            have u1 := eb1.cell (k := 0) rfl
            have u2 := eb2.cell (k := 0) rfl
            have f1 := eb1.free 0
            have f2 := eb2.free 0
            have Hb1w := Lib.hid eb1
            have Hb2w := Lib.hid eb2
            have HeK := Lib.hid eK
            clear eb1 eb2 eK
            by_cases hlt : a < n
            · obtain ⟨l, Ax, cx, hl, hlm, hlc, hlr, -⟩ := Hrow.out (1 + a) (by omega)
              have r1 : wr.cell? ⟨ga, 1 + a, none⟩ = some (.slice Ax l.length cx) := (World.cell?_of_block (a := ⟨ga, 1 + a, none⟩) (HeK.out ga HXg.out hga2)).trans hlc
              have hll := (Hnums.out l hlm).2
              have Hll := Lib.hid hl
              clear hlc hl
              by_cases h5 : l.length < 5
              · have hE : loadK s.data.toList n q = .error 3 := by
                  have hp : partC Ls a = 3 := by unfold partC; rw [Hll.out, if_pos h5]
                  rw [Hload.out, shape_part hlen (by rw [Hl0.out]; rfl) (by rw [Hl0.out]; show (t0 : Int) ≤ 300; omega) hlt Hpc.out (by omega), hp]; rfl
                have g5 : decide ((l.length : Int) < 5) = true := by simp; omega
                go_wp2_with fail
                exact load_out hD hwX eD Hb1w.out Hb2w.out ebw rfl rfl fun w' _ hb' => ⟨by rw [hE]; exact rfl, hb'⟩
              · obtain ⟨v0, v1, v2, v3, v4, r, hlv⟩ := five_of h5
                have hlr2 := hlr
                rcases hlr with ⟨e0, e1⟩ | ⟨g, off, cc, cur, h1, h2, h3, h4', h5', h6, h7⟩
                · rw [e1] at hlv; cases hlv
                · obtain ⟨rfl, rfl⟩ : Ax = some ⟨g, off, none⟩ ∧ cx = cc := by injection h1 with x1 x2 x3; exact ⟨x1, x3⟩
                  have hgX : X.heap.size ≤ g := (Hg3.out.rw_.low g (by omega)).1
                  have hgZ : g < Z.heap.size := (Array.getElem?_eq_some_iff.1 h4').1
                  have HC := Lib.hid (show ∀ (V : World), V.heap[g]? = Z.heap[g]? → ∀ j x, l[j]? = some x → V.cell? ⟨g, off + j, none⟩ = some (.int .i64 x) from fun V hV j x hj => by
                    rw [cell_of_row V g (off + j) cur _ _ (hV.trans h4')]; exact h7 j x hj)
                  have hnn0 := (Hnums.out l hlm).1
                  have HN0 := Lib.hid hnn0
                  obtain ⟨hv0, hv0'⟩ := hnn0 v0 (by rw [hlv]; exact List.mem_cons_self ..)
                  obtain ⟨pc, rfl⟩ : ∃ t : Nat, v0 = t := ⟨v0.toNat, by omega⟩
                  have d0 := HC.out wr (HeK.out g hgX hgZ) 0 pc (by rw [hlv]; rfl)
                  rw [Nat.add_zero] at d0
                  have Hlv := Lib.hid hlv
                  have g5 : decide ((l.length : Int) < 5) = false := by simp; omega
                  have l0 : (0 : Int) < l.length := by omega
                  have l0' : 0 < l.length := by omega
                  clear hlv h1 h4' h5' h7 hlr2 hnn0
                  by_cases h12 : pc ≤ 12
                  · have g12 : decide ((pc : Int) > 12) = false := by simp; omega
                    have hil : a < L.length := by omega
                    obtain ⟨role, k1, k2, k3⟩ := HLd.out
                    obtain ⟨q0, -, -, qf⟩ := k1.part hil
                    have qf0 := qf (a * 6)
                    clear k1 k2 k3 qf
                    have HL1 := Lib.hid ((HLd.out.drewN 1).setPc hil pc)
                    have HL2 := Lib.hid (HL1.out.drewN 1)
                    have lcx : l.length ≤ cx := h2
                    have i1 : (1 : Int) ≤ l.length := by omega
                    have i2 : (1 : Int) ≤ cx := by omega
                    have i3 : ¬ cx = 1 := by omega
                    have i4 : (l.length : Int) ≤ cx := by omega
                    have i5 : 1 ≤ l.length := by omega
                    go_wp2_with fail
                    refine wp_still_tailD 10 (by kernel_rfl) (by kernel_rfl) ?_
                    simp only [List.take_succ_cons, List.take_zero, List.drop_succ_cons, List.drop_zero]
                    repeat still_step
                    refine wpStill_nil ?_
                    go_wp2_with fail
                    clear qf0 q0 d0 e9 e3 e4 eD ebw u1 u2 f1 f2 r1
                    generalize ((wr.drewN 1).setCell ⟨K.gp, a * 6, none⟩ (.int .i64 pc)) = V1 at *
                    obtain ⟨e9, e3, e4, eD, eb1, eb2, ebw, eK⟩ := HF.out _ _ HL1.out
                    clear eb1 eb2 eK
                    refine wp_still_tailD 10 (by kernel_rfl) (by kernel_rfl) ?_
                    simp only [List.take_succ_cons, List.take_zero, List.drop_succ_cons, List.drop_zero]
                    repeat still_step
                    refine wpStill_nil ?_
                    have hcp := copy_regs (V := V1.drewN 1) (gp := K.gp) (o := a * 6 + 1) (g := g) (off := off + 1) (sl := l.length - 1) (sc := cx - 1) (v1 := v1) (v2 := v2) (v3 := v3) (v4 := v4)
                      (fun j x hj => by
                        rw [show off + 1 + j = off + (j + 1) by omega]
                        refine HC.out (V1.drewN 1) ((HF.out _ _ HL2.out).2.2.2.2.2.2.2 g hgX hgZ) (j + 1) x ?_
                        rw [Hlv.out, List.getElem?_cons_succ]
                        match j, hj with
                        | 0, hj => exact hj
                        | 1, hj => exact hj
                        | 2, hj => exact hj
                        | 3, hj => exact hj
                        | j + 4, hj => simp at hj)
                      (fun j hj => by
                        obtain ⟨role, k1, -, -⟩ := HL2.out
                        rw [(k1.part hil).2.1 j hj]; rfl)
                      (fun j => by
                        obtain ⟨role, k1, -, -⟩ := HL2.out
                        exact (k1.part hil).2.2.2 j) (by omega)
                    have HL3 := Lib.hid ((((HL2.out.setReg (a := 0) hil (by decide) v1).setReg (a := 1) hil (by decide) v2).setReg (a := 2) hil (by decide) v3).setReg (a := 3) hil (by decide) v4)
                    obtain ⟨V2, hV2⟩ : ∃ V2, (((((V1.drewN 1).setCell ⟨K.gp, a * 6 + 1, none⟩ (.int .i64 v1)).setCell ⟨K.gp, a * 6 + 1 + 1, none⟩ (.int .i64 v2)).setCell ⟨K.gp, a * 6 + 1 + 2, none⟩ (.int .i64 v3)).setCell ⟨K.gp, a * 6 + 1 + 3, none⟩ (.int .i64 v4)) = V2 := ⟨_, rfl⟩
                    rw [hV2] at hcp
                    have HL4 : Hid (LdK R1 W1.heap.size w2.heap.size Z V2 p K L P q T (sReg (sReg (sReg (sReg (sPc (stG Ls n a 0) a pc) a 0 v1) a 1 v2) a 2 v3) a 3 v4) t0) := Lib.hid (by rw [← hV2]; exact HL3.out)
                    clear hV2 HL3
                    have CC := Lib.hid (fun V (hV : Below V2.heap.size V2 V) (o5 : Nat) (cap : Nat) (ho : r = [] ∨ o5 = off + 5) => (CloneI_own r (l.length - 5) (by rw [Hlv.out]; simp) (some ⟨g, o5, none⟩) cap V (fun hne => ⟨g, o5, rfl, fun j x hj => by
                        obtain rfl : o5 = off + 5 := ho.resolve_left hne
                        rw [show off + 5 + j = off + (j + 5) by omega]
                        exact HC.out V ((HF.out _ _ (HL4.out.same hV.size hV)).2.2.2.2.2.2.2 g hgX hgZ) (j + 5) x (by rw [Hlv.out]; exact hj)⟩) (by omega)).mono fun e w' ⟨⟨A', c', he, hown⟩, hb⟩ =>
                      (show ∃ A' c' vv, e = Ending.returned (.slice A' (l.length - 5) c') ∧ w'.cell? ⟨K.gp, a * 6 + 5, none⟩ = some vv ∧ w'.frozen? ⟨K.gp, a * 6 + 5, none⟩ = false ∧ w'.cell? ⟨p, 3, none⟩ = some (Value.slice (some ⟨K.gp, 0, none⟩) n n) ∧ Hid (LdK R1 W1.heap.size w2.heap.size Z (w'.setCell ⟨K.gp, a * 6 + 5, none⟩ (.slice A' (l.length - 5) c')) p K L P q T (stG Ls n (a + 1) 0) t0) by
                        have hLV := HL4.out.same hV.size hV
                        obtain ⟨role, k1, -, -⟩ := hLV.same hb.size hb
                        obtain ⟨-, -, ⟨vv, e5, -⟩, fz⟩ := k1.part hil
                        have k2 := hLV.setShown hil hb hown
                        have es := stG_load Ls n a 0 pc v1 v2 v3 v4 r (by rw [Hll.out, Hlv.out])
                        rw [← es]
                        exact ⟨A', c', vv, he, e5, fz _, (HF.out _ _ (hLV.same hb.size hb)).2.1, Lib.hid k2⟩))
                    have Hpc2 : Hid (∀ b, b < a + 1 → partC Ls b = 0) := Lib.hid fun b hb => by
                      by_cases e : b = a
                      · subst e
                        unfold partC
                        rw [Hll.out, if_neg h5, if_neg (by rw [Hlv.out]; show ¬ (12 : Int) < pc; omega)]
                      · exact Hpc.out b (by omega)
                    have hbD := (Below.refl V2.heap.size V2).drew
                    have hbD1 := below_drewN (Below.refl V2.heap.size V2) 1
                    have hr5 : cx = 5 → r = [] := fun e => by
                      have : l.length = r.length + 5 := by rw [Hlv.out]; rfl
                      exact List.length_eq_zero_iff.1 (by omega)
                    have Hr5 := Lib.hid hr5
                    clear hr5
                    go_wp2_with fail
                    obtain ⟨e9', e3', e4', -, -, -, -, -⟩ := HF.out _ _ HL4.out
                    clear e9 e3 e4 hcp
                    have j1 : (5 : Int) ≤ l.length := by omega
                    have j2 : (5 : Int) ≤ cx := by omega
                    have j3 : 5 ≤ l.length := by omega
                    by_cases hc5 : cx = 5
                    · subst hc5
                      have Hr50 := Lib.hid (Hr5.out rfl)
                      have hl50 : l.length - 5 = 0 := by omega
                      have CC0 := Lib.hid CC.out
                      rw [hl50] at CC0
                      clear hl50
                      go_region_held3 (fun V => V.cell? ⟨p, 3, none⟩ = some (.slice (some ⟨K.gp, 0, none⟩) n n))
                        ((first | exact e3' | assumption | exact (HF.out _ _ HL5.out).2.1))
                        ((first
                          | (go_at_call 31; with_reducible refine (CC0.out _ hbD _ _ (.inl Hr50.out)).mono ?_; rintro e V3 ⟨A', c', vv, rfl, t1, t2, t3, HL5⟩)
                          | fail))
                      go_wp2_with fail
                      clear HF HC CC CC0 Hrow Hnums
                      first
                        | (refine ⟨⟨a + 1, ?ya, ?yb, HL5, Hpc2⟩, ?yd⟩
                           case ya => omega
                           case yb => go_num
                           case yd => simp [intOf]; omega)
                        | (refine ⟨⟨_, _, _, _, _, _, _, _, _, _, _, _, _, _, _, _, _, _, _, _, _, _, _, _, _, _, _, _, _, _, _, _, _, _, _, _, _, _, _, _, _, _, _, _, _, _, _, _, ⟨a + 1, ?yaa, ?ybb, HL5, Hpc2⟩, rfl⟩, ?ydd⟩
                           case yaa => omega
                           case ybb => go_num
                           case ydd =>
                             show n - (intOf (.int .i64 ((a : Int) + 1))).toNat < n - (intOf (.int .i64 (a : Int))).toNat
                             simp only [intOf]
                             omega)
                    · have Hc5 := Lib.hid hc5
                      go_region_held3 (fun V => V.cell? ⟨p, 3, none⟩ = some (.slice (some ⟨K.gp, 0, none⟩) n n))
                        ((first | exact e3' | assumption | exact (HF.out _ _ HL5.out).2.1))
                        ((first
                          | (go_at_call 31; with_reducible refine (CC.out _ hbD _ _ (.inr rfl)).mono ?_; rintro e V3 ⟨A', c', vv, rfl, t1, t2, t3, HL5⟩)
                          | fail))
                      go_wp2_with fail
                      clear HF HC CC Hrow Hnums
                      first
                        | (refine ⟨⟨a + 1, ?ya, ?yb, HL5, Hpc2⟩, ?yd⟩
                           case ya => omega
                           case yb => go_num
                           case yd => simp [intOf]; omega)
                        | (refine ⟨⟨_, _, _, _, _, _, _, _, _, _, _, _, _, _, _, _, _, _, _, _, _, _, _, _, _, _, _, _, _, _, _, _, _, _, _, _, _, _, _, _, _, _, _, _, _, _, _, _, ⟨a + 1, ?yaa, ?ybb, HL5, Hpc2⟩, rfl⟩, ?ydd⟩
                           case yaa => omega
                           case ybb => go_num
                           case ydd =>
                             show n - (intOf (.int .i64 ((a : Int) + 1))).toNat < n - (intOf (.int .i64 (a : Int))).toNat
                             simp only [intOf]
                             omega)
                  · have g12 : decide ((pc : Int) > 12) = true := by simp; omega
                    have hE : loadK s.data.toList n q = .error 1 := by
                      have hp : partC Ls a = 1 := by
                        unfold partC
                        rw [Hll.out, if_neg h5, if_pos (by rw [Hlv.out]; show (12 : Int) < pc; omega)]
                      rw [Hload.out, shape_part hlen (by rw [Hl0.out]; rfl) (by rw [Hl0.out]; show (t0 : Int) ≤ 300; omega) hlt Hpc.out (by omega), hp]; rfl
                    go_wp2_with fail
                    exact load_out hD hwX eD Hb1w.out Hb2w.out ebw rfl rfl fun w' _ hb' => ⟨by rw [hE]; exact rfl, hb'⟩
            · obtain rfl : a = n := by omega
              have hcap := Hg3.out.rw_.cap
              have hcap1 : (1 : Int) + a ≤ c := by omega
              have hcap2 : (1 : Int) + a ≤ Ls.length := by omega
              have hcap3 : (Ls.length : Int) ≤ c := by omega
              have hcap4 : 1 + a ≤ Ls.length := by omega
              have hcap5 : 1 + a ≤ c := by omega
              have hqs : 1 + a + q - (1 + a) = q := by omega
              have Hlen := Lib.hid hlen
              have hap : ∀ b, b < q → 1 + a + b < 1 + a + q := fun b hb => by omega
              go_wp2_with fail
              all_goals
                try simp only [hqs]
                go_loopw [17, 18, 149] (fun _ _ i wz => ∃ b : Nat, b ≤ q ∧ i = .int .i64 b ∧ Hid (LdK R1 W1.heap.size w2.heap.size Z wz p K L P q T (stG Ls a a b) t0) ∧ Hid (∀ e, e < b → heldC Ls a e = 0)) (fun _ _ i _ => q - (intOf i).toNat)
                case atStart => exact ⟨0, Nat.zero_le _, rfl, HLd, Lib.hid fun b hb => absurd hb (Nat.not_lt_zero _)⟩
                case round =>
                  clear e9 e3 e4 eD ebw u1 u2 f1 f2 Hb1w Hb2w HeK
                  obtain ⟨b, hb, rfl, HLz, Hhc⟩ := hrel
                  obtain ⟨e9, e3, e4, eD, eb1, eb2, ebw, eK⟩ := HF.out _ _ HLz.out
                  have u1 := eb1.cell (k := 0) rfl
                  have u2 := eb2.cell (k := 0) rfl
                  have f1 := eb1.free 0
                  have f2 := eb2.free 0
                  have Hb1w := Lib.hid eb1
                  have Hb2w := Lib.hid eb2
                  have HeK := Lib.hid eK
                  clear eb1 eb2 eK
                  by_cases hlb : b < q
                  · obtain ⟨l, Ax, cx, hl, hlm, hlc, -, hport⟩ := Hrow.out (1 + a + b) (by omega)
                    have r1 := (World.cell?_of_block (a := ⟨ga, 1 + a + b, none⟩) (HeK.out ga HXg.out hga2)).trans hlc
                    have hll := (Hnums.out l hlm).2
                    have Hll := Lib.hid hl
                    have HPt := Lib.hid (hport b rfl)
                    have h30 : (Ls.getD 0 []).getD 0 0 ≤ 300 := by rw [Hl0.out]; show (t0 : Int) ≤ 300; omega
                    have H30 := Lib.hid h30
                    clear hlc hl hport h30
                    by_cases h4l : 4 < l.length
                    · have hE : loadK s.data.toList a q = .error 4 := by
                        have hp : heldC Ls a b = 4 := by unfold heldC; rw [Hll.out, if_pos h4l]
                        rw [Hload.out, shape_held Hlen.out (by rw [Hl0.out]; rfl) H30.out Hpc.out hlb Hhc.out (by omega), hp]; rfl
                      have g5 : decide ((l.length : Int) > 4) = true := by simp; omega
                      go_wp2_with fail
                      all_goals exact load_out hD hwX eD Hb1w.out Hb2w.out ebw rfl rfl fun w' _ hb' => ⟨by rw [hE]; exact rfl, hb'⟩
                    · have g5 : decide ((l.length : Int) > 4) = false := by simp; omega
                      obtain ⟨role, k1, -, -⟩ := HLz.out
                      obtain ⟨⟨vv, q0, -⟩, qf⟩ := k1.port hlb
                      have qf0 := qf b
                      clear k1 qf
                      have hb2 : (b : Int) < q := by omega
                      have hb0 : (0 : Int) ≤ b := by omega
                      have hL := HLz.out.setHeld hlb HPt.out (fun b' hb' => HR1.out b' b hb')
                      have hsp : (stG Ls a a b).port b l = stG Ls a a (b + 1) := by rw [stG_port, Hll.out]
                      rw [hsp] at hL
                      have HL := Lib.hid hL
                      clear hL hsp
                      have Hhc' := Lib.hid (show ∀ e, e < b + 1 → heldC Ls a e = 0 from fun e he => by
                        by_cases h : e = b
                        · subst h; unfold heldC; rw [Hll.out, if_neg h4l]
                        · exact Hhc.out e (by omega))
                      go_wp2_with fail
                      all_goals
                        refine ⟨⟨b + 1, ?ya3, ?yb3, HL, Hhc'⟩, ?yd3⟩
                        case ya3 => omega
                        case yb3 => go_num
                        case yd3 => simp [intOf]; omega
                  · obtain rfl : b = q := by omega
                    have hsh : shapeK Ls a b = 0 := shape_good Hlen.out (by rw [Hl0.out]; rfl) (by rw [Hl0.out]; show (t0 : Int) ≤ 300; omega) Hpc.out Hhc.out
                    have hE : loadK s.data.toList a b = .ok Ls := by rw [Hload.out, if_pos hsh]
                    have hDZ := (Array.getElem?_eq_some_iff.1 hK).1
                    go_wp2_with fail
                    refine load_out hD hwX eD Hb1w.out Hb2w.out ebw rfl rfl fun w' hq' hb' => ⟨?_, hb'⟩
                    rw [hE]
                    obtain ⟨role, k1, k2, k3⟩ := HLz.out
                    have hs1 := Hs1.out
                    have kk := k1.keep (role' := role) hq'.size (fun j hj ho => hq'.block j hj (fun e => by
                      rcases e with rfl | rfl | rfl
                      · rcases ho with ho | ho
                        · exact ho ((k2 _ hDZ).trans HRD.out)
                        · omega
                      · rcases ho with ho | ho
                        · exact ho (k1.low _ (by omega))
                        · omega
                      · rcases ho with ho | ho
                        · exact ho (k1.low _ (by omega))
                        · omega)) (fun _ _ => rfl) (fun j hj => k1.new j (Nat.le_trans hq'.size hj))
                    have ht : tickOf Ls = t0 := by
                      unfold tickOf
                      rw [Hl0.out]
                      exact Int.toNat_natCast t0
                    refine ⟨p, role, w2.heap.size, K, rfl, ?_⟩
                    rw [hn, ht, ← stG_all]
                    exact kk.lower (by omega)
        · have g3 : decide ((t0 : Int) > 300) = true := by simp; omega
          have hE : loadK s.data.toList n q = .error 1 := by
            rw [Hload.out]
            have : shapeK Ls n q = 1 := by
              unfold shapeK
              rw [Hl0.out, if_neg (by rintro (e | e) <;> omega), if_pos (by show (300 : Int) < t0; omega)]
            rw [this]; rfl
          go_wp2_with fail
          go_quiet (fail)
          go_wp2_with fail
          exact load_out hD hwX hK (Hg3.out.r1) (Hg3.out.r2) (below_drewN (Hb12.out.trans (Hg3.out.bw.mono Hb12.out.size)) _) rfl rfl fun w' _ hb' => ⟨by rw [hE]; exact rfl, hb'⟩
      · have g01 : ((l0.length : Int) != 1) = true := by simp; omega
        have hE : loadK s.data.toList n q = .error 3 := by
          rw [Hload.out]
          have : shapeK Ls n q = 3 := by unfold shapeK; rw [if_pos (.inr (by rw [hl0]; exact h01))]
          rw [this]; rfl
        clear hr0 hm0 hl0
        go_wp2_with fail
        go_quiet (fail)
        go_wp2_with fail
        exact load_out hD hwX hK (Hg3.out.r1) (Hg3.out.r2) (below_drewN (Hb12.out.trans (Hg3.out.bw.mono Hb12.out.size)) _) rfl rfl fun w' _ hb' => ⟨by rw [hE]; exact rfl, hb'⟩
    · have hne : ((Ls.length : Int) != 1 + (n : Int) + (q : Int)) = true := by simp; omega
      have hE : loadK s.data.toList n q = .error 3 := by
        rw [Hload.out]
        have : shapeK Ls n q = 3 := by unfold shapeK; rw [if_pos (.inl hlen)]
        rw [this]; rfl
      have hnn : (n : Int) ≤ 5 := by omega
      have hqq : (q : Int) ≤ 6 := by omega
      go_wp2_with fail
      go_quiet (fail)
      go_wp2_with fail
      exact load_out hD hwX hK (Hg3.out.r1) (Hg3.out.r2) (below_drewN (Hb12.out.trans (Hg3.out.bw.mono Hb12.out.size)) _) rfl rfl fun w' _ hb' => ⟨by rw [hE]; exact rfl, hb'⟩
  case stop =>
    rintro D cd pre Z hD _ ⟨rfl, k, g1, g2, g3, g4⟩ hK
    gi_wp2_with fail
    have hX0 : w.heap.size + 1 + 1 < D := by omega
    refine leaves_marksQ (B := X.heap.size) [D] Z (MarksAt.nil.cons hD (by simp) hK) fun w' hq' => ?_
    have d1 := (hq'.box g2 (fun hh => by have := List.mem_singleton.1 hh; omega)).cell (k := 0) rfl
    have d2 := (hq'.box g3 (fun hh => by have := List.mem_singleton.1 hh; omega)).cell (k := 0) rfl
    refine ⟨.tuple #[.pointer none, .iface 63 (.int .i64 k)], by simp [results, Tryz.f11, go_sem, d1, d2], ?_, hq'.to_below (fun k hk => by have := List.mem_singleton.1 hk; omega) g4 g4.size⟩
    rw [g1.out]
    exact rfl
end Go.Proofs.YtanlmfnhlldkeaaGreatDoor
