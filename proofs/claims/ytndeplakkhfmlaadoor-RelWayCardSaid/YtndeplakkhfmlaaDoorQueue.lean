/-
  Contracts: core.Queue at ints: Add, Len, At. What it holds; which blocks are its own.
-/
import Derived.Test.YtndeplakkhfmlaaDoorPush
import Derived.Test.YtndeplakkhfmlaaDoorBox
import Derived.Test.YtndeplakkhfmlaaDoorCast
import Derived.Test.YtndeplakkhfmlaaDoorOver
import Derived.Test.YtndeplakkhfmlaaDoorStillD
import Derived.Maps.OwnSet
namespace Go.Proofs.YtndeplakkhfmlaaDoor
open Go.RowKit Go.Maps
set_option maxRecDepth 100000
set_option linter.unusedVariables false

theorem qlaw : Keyed Tryd.prog 3 := int_keyed Tryd.underlying3
theorem qzero (w : World) : (zeroValue 3).run Tryd.prog w = .ok (.int .i64 0) w := by kernel_rfl
theorem int_ne_queue : (3 : TypeId) ≠ 79 := by decide

/-- Nothing has turned but what is in S, and nothing has gone. -/
structure QKeeps (S : Nat → Prop) (w w' : World) : Prop where
  os : w'.os = w.os
  tape : w'.tape = w.tape
  output : w'.output = w.output
  size : w.heap.size ≤ w'.heap.size
  block : ∀ b, b < w.heap.size → ¬ S b → w'.heap[b]? = w.heap[b]?
section
variable {S S' : Nat → Prop} {w w' w'' : World}
theorem QKeeps.refl (S : Nat → Prop) (w : World) : QKeeps S w w := ⟨rfl, rfl, rfl, Nat.le_refl _, fun _ _ _ => rfl⟩
theorem QKeeps.trans (h : QKeeps S w w') (k : QKeeps S' w' w'') (hS : ∀ b, S' b → S b ∨ w.heap.size ≤ b) : QKeeps S w w'' :=
  ⟨k.os.trans h.os, k.tape.trans h.tape, k.output.trans h.output, Nat.le_trans h.size k.size, fun b hb hn => (k.block b (Nat.lt_of_lt_of_le hb h.size) (fun h' => (hS b h').elim hn (fun e => by omega))).trans (h.block b hb hn)⟩
theorem QKeeps.drewN (h : QKeeps S w w') (n : Nat) : QKeeps S w (w'.drewN n) := ⟨h.os, h.tape, h.output, h.size, h.block⟩
theorem QKeeps.of_below (h : Below w.heap.size w w') : QKeeps S w w' := ⟨h.os, h.tape, h.output, h.size, fun b hb _ => h.block b hb⟩
theorem QKeeps.grown {row : Option Nat} (h : QKeeps S w w') (hg : w'.grownBy w'' row) (hr : ∀ g, row = some g → S g ∨ w.heap.size ≤ g) : QKeeps S w w'' :=
  ⟨hg.os.trans h.os, hg.tape.trans h.tape, hg.output.trans h.output, Nat.le_trans h.size hg.size, fun b hb hn => (hg.block b (Nat.lt_of_lt_of_le hb h.size) (fun e => (hr b e.symm).elim hn (fun e => by omega))).trans (h.block b hb hn)⟩
theorem QKeeps.setCell (h : QKeeps S w w') {p : Addr} (hp : S p.block) (v : Value) : QKeeps S w (w'.setCell p v) :=
  ⟨h.os, h.tape, h.output, by simpa using h.size, fun b hb hn => (Below.heap_setCell w' p v b (fun e => hn (by rw [e]; exact hp))).trans (h.block b hb hn)⟩
theorem QKeeps.alloc (h : QKeeps S w w') (o : Obj) : QKeeps S w (w'.alloc o) := h.grown (World.grownBy_alloc w' o none) (fun _ e => by cases e)
theorem QKeeps.to_below {B : Nat} {w0 : World} (h : QKeeps S w w') (hS : ∀ b, S b → B ≤ b) (hb : Below B w0 w) (hB : B ≤ w.heap.size) : Below B w0 w' :=
  ⟨h.os.trans hb.os, h.tape.trans hb.tape, h.output.trans hb.output, Nat.le_trans hb.size h.size, fun k hk => (h.block k (by omega) (fun e => by have := hS k e; omega)).trans (hb.block k hk)⟩
theorem QKeeps.box {b : Nat} {t : TypeId} {vs : Array Value} (h : QKeeps S w w') (hb : BoxN w b t vs) (hn : ¬ S b) : BoxN w' b t vs := (h.block b hb.lt hn).trans hb
theorem QKeeps.row {base size n : Nat} {e : TypeId} {v : Value} {xs : List Value} (h : QKeeps S w w') (hr : w.ownsRow base e size v n xs) (hn : ∀ g, v.ownBlock = some g → ¬ S g) : w'.ownsRow base e size v n xs := by
  refine ⟨hr.1, ?_⟩
  rcases hr.2 with h0 | ⟨g, cap, cur, hv, hg, hc, r⟩
  · exact .inl h0
  · exact .inr ⟨g, cap, cur, hv, hg, (h.block g (Array.getElem?_eq_some_iff.1 hc).1 (hn g (by rw [hv]; rfl))).trans hc, r⟩
end
theorem ownsMap_block {H : Type} {P : Program} {k : TypeId} {R : Value → Option (DataW H × List MemPlace)} {w w' : World} {b n : Nat} {D : DataW H} (h : w.ownsMap P k R b n D) (hb : w'.heap[b]? = w.heap[b]?) : w'.ownsMap P k R b n D := by
  obtain ⟨es, clock, h1, h2⟩ := h
  exact ⟨es, clock, hb.trans h1, h2⟩

/-- A key of the queue's map. -/
abbrev qkey (y : Nat) : Lit := .int .i64 (y : Int)
/-- A queue in block p: its map holds just the things of the list. S: its own blocks. -/
def QAt (B : Nat) (w : World) (p : Nat) (S : Nat → Prop) (q : List Nat) : Prop :=
  ∃ m v, BoxN w p 79 #[m, v] ∧ S p ∧ (∀ b, S b → B ≤ b ∧ b < w.heap.size) ∧ OwnI w B v (castL q) ∧ (∀ g, v.ownBlock = some g → S g) ∧
    (q = [] ∧ m = .map none ∧ v = .slice none 0 0 ∨ q ≠ [] ∧ ∃ (mb : Nat) (D : DataW Unit), m = .map (some mb) ∧ S mb ∧ w.ownsMap Tryd.prog 3 (plainElem Tryd.prog 3) mb q.length D ∧ IsMap D ∧ ∀ y : Nat, Maps.has D (qkey y) = decide (y ∈ q))
section
variable {B : Nat} {w w' : World} {p : Nat} {S S' : Nat → Prop} {q : List Nat}
theorem QAt.in_ (h : QAt B w p S q) : ∀ b, S b → B ≤ b ∧ b < w.heap.size := by obtain ⟨_, _, _, _, h, _⟩ := h; exact h
/-- What spares its blocks keeps it. -/
theorem QAt.keep (h : QAt B w p S q) (hs : w.heap.size ≤ w'.heap.size) (hb : ∀ b, S b → w'.heap[b]? = w.heap[b]?) : QAt B w' p S q := by
  obtain ⟨m, v, h1, h2, h3, h4, h5, h6⟩ := h
  refine ⟨m, v, (hb p h2).trans h1, h2, fun b hb' => ⟨(h3 b hb').1, by have := (h3 b hb').2; omega⟩, ?_, h5, ?_⟩
  · refine ⟨h4.1, ?_⟩
    rcases h4.2 with h0 | ⟨g, cap, cur, hv, hg, hc, r⟩
    · exact .inl h0
    · exact .inr ⟨g, cap, cur, hv, hg, (hb g (h5 g (by rw [hv]; rfl))).trans hc, r⟩
  · rcases h6 with h6 | ⟨k0, mb, D, k1, k2, k3, k4⟩
    · exact .inl h6
    · exact .inr ⟨k0, mb, D, k1, k2, ownsMap_block k3 (hb mb k2), k4⟩
theorem QAt.below (h : QAt B w p S q) (hb : Below w.heap.size w w') : QAt B w' p S q := h.keep hb.size fun b hb' => hb.block b (h.in_ b hb').2
theorem QAt.new (w : World) (hB : B ≤ w.heap.size) : QAt B (w.alloc (.cells #[.map none, .slice none 0 0] 79)) w.heap.size (fun b => b = w.heap.size) [] :=
  ⟨_, _, BoxN.new _ _ _, rfl, fun b hb => by subst hb; exact ⟨hB, by simp⟩, OwnI.nil _ _, fun g hg => by simp [Value.ownBlock] at hg, .inl ⟨rfl, rfl, rfl⟩⟩

def QAddPost (B : Nat) (w : World) (p : Nat) (S : Nat → Prop) (q : List Nat) (y : Nat) (w' : World) : Prop :=
  ∃ S', QAt B w' p S' (if y ∈ q then q else q ++ [y]) ∧ (∀ b, S' b → S b ∨ w.heap.size ≤ b) ∧ QKeeps S w w'

theorem castL_push (q : List Nat) (y : Nat) : castL (q ++ [y]) = castL q ++ [(y : Int)] := by simp [castL]
theorem qput_has {D : DataW Unit} {q : List Nat} {y : Nat} {d : DataW Unit} (hD : IsMap D) (hh : ∀ z : Nat, Maps.has D (qkey z) = decide (z ∈ q)) (z : Nat) : Maps.has (D.put (qkey y) d) (qkey z) = decide (z ∈ q ++ [y]) := by
  by_cases e : z = y
  · subst e
    rw [Maps.has_put_same hD (by first | trivial | decide | simp [WideAt.IsKeyLit])]
    simp
  · rw [Maps.has_put_other (fun h => e (by injection h with _ h; exact Int.ofNat.inj h)), hh z]
    simp [e]

set_option maxHeartbeats 2000000 in
theorem QAdd_had (h : QAt B w p S q) (y : Nat) (hy : y < 2 ^ 62) (hm : y ∈ q) :
    Calls Tryd.prog 50 #[.pointer (some ⟨p, 0, none⟩), .int .i64 y] w fun e w' => (∃ c : Int, e = .returned (.tuple #[.int .i64 c, .bool false])) ∧ w = w' := by
  obtain ⟨m, v, h1, h2, h3, h4, h5, h6⟩ := h
  obtain ⟨_, mb, D, rfl, k2, k3, k4, k5⟩ := h6.resolve_left (fun e => by rw [e.1] at hm; cases hm)
  have hkey : keyOf Tryd.prog 3 (.int .i64 y) = some (qkey y) := keyOf_int_mk Tryd.underlying3 (WalkArith.wf_i64 (by omega))
  have hhas := k5 y
  rw [decide_eq_true hm] at hhas
  have hen := run_eql_map_nil (P := Tryd.prog) w _ _ _ (some mb) Tryd.underlying77
  have x0 := h1.cell (k := 0) rfl
  have x1 := h1.cell (k := 1) rfl
  clear h2 h3 h4 h5 h6 k5 hm
  go_enter Tryd.func50, Tryd.ntmps50
  go_wp2_with (at_lookup; refine wpList_lookup_own_ok_int w rfl _ _ 77 rfl 3 3 .i64 qlaw Tryd.underlying77 Tryd.underlying3 (qzero _) mb _ D rfl k3 _ _ rfl hkey ?_; intro c hat hwc; rw [hhas])
  go_ret2
  exact ⟨⟨_, rfl⟩, rfl⟩

/-- What stands of the queue behind the store in its map, and behind the append. -/
theorem qbox2 {w1 w2 : World} {o : Obj} {vs : Array Value} {t : TypeId} {r : Option Nat} (hx : BoxN w1 p t vs) (hg : (w1.alloc o).grownBy w2 r) (hr : r ≠ some p) : BoxN w2 p t vs :=
  (hg.block p (by have := hx.lt; simp; omega) (fun e => hr e.symm)).trans (hx.alloc o)

theorem own_off {base size n b : Nat} {e t : TypeId} {v : Value} {xs : List Value} {vs : Array Value} {k : Nat} (h : w.ownsRow base e size v n xs) (hx : BoxN w b t vs) (ht : e ≠ t) (u : Value) : (w.setCell ⟨b, k, none⟩ u).ownsRow base e size v n xs := by
  refine ⟨h.1, ?_⟩
  rcases h.2 with h0 | ⟨g, cap, cur, hv, hg, hc, r⟩
  · exact .inl h0
  · refine .inr ⟨g, cap, cur, hv, hg, (Below.heap_setCell w ⟨b, k, none⟩ u g (fun e' => ?_)).trans hc, r⟩
    have e' : g = b := e'
    subst e'
    have h2 : w.heap[g]? = _ := hx
    rw [hc] at h2
    injection h2 with h2
    injection h2 with _ h2
    exact ht h2
theorem own_lt {base size n : Nat} {e : TypeId} {v : Value} {xs : List Value} (h : w.ownsRow base e size v n xs) {g : Nat} (hg : v.ownBlock = some g) : base ≤ g ∧ g < w.heap.size := by
  rcases h.2 with ⟨h0, _⟩ | ⟨g', cap, cur, hv, h1, hc, r⟩
  · rw [h0] at hg; cases hg
  · rw [hv] at hg
    have : g' = g := by simpa [Value.ownBlock] using hg
    subst this
    exact ⟨h1, (Array.getElem?_eq_some_iff.1 hc).1⟩
/-- What stands behind the append. -/
theorem qadd_end {w1 w2 : World} {v v2 : Value} {mb y : Nat} {D d : DataW Unit} {o : Obj} (hx2 : BoxN w2 p 79 #[.map (some mb), v]) (hS : ∀ b, S b → B ≤ b ∧ b < w.heap.size) (hB : B ≤ w.heap.size) (hp : S p) (hmb : S mb ∨ w.heap.size ≤ mb) (hne : mb ≠ p)
    (hgS : ∀ g, v.ownBlock = some g → S g) (hvm : v.ownBlock ≠ some mb) (hk1 : QKeeps S w w1) (hg2 : (w1.alloc o).grownBy w2 v.ownBlock) (hv2 : v2.ownBlock = v.ownBlock ∨ v2.ownBlock = some (w1.alloc o).heap.size) (ho2 : OwnI w2 B v2 (castL q ++ [(y : Int)]))
    (hm : w1.ownsMap Tryd.prog 3 (plainElem Tryd.prog 3) mb (q.length + 1) (D.put (qkey y) d)) (hD : IsMap D) (hh : ∀ z : Nat, Maps.has D (qkey z) = decide (z ∈ q)) :
    ∃ S', QAt B (w2.setCell ⟨p, 1, none⟩ v2) p S' (q ++ [y]) ∧ (∀ b, S' b → S b ∨ w.heap.size ≤ b) ∧ QKeeps S w (w2.setCell ⟨p, 1, none⟩ v2) := by
  have hsz : w.heap.size ≤ w2.heap.size := Nat.le_trans hk1.size (Nat.le_trans (by simp) hg2.size)
  have hk2 : QKeeps S w w2 := (hk1.alloc o).grown hg2 (fun g hg => .inl (hgS g hg))
  have hm2 := (hm.alloc o).kept hg2 (fun e => hvm e.symm)
  have hcl : castL (q ++ [y]) = castL q ++ [(y : Int)] := castL_push q y
  refine ⟨fun b => S b ∨ b = mb ∨ v2.ownBlock = some b, ⟨_, v2, hx2.set 1 v2, .inl hp, ?_, ?_, fun g hg => .inr (.inr hg), .inr ⟨by simp, mb, D.put (qkey y) d, rfl, .inr (.inl rfl), ?_, hD.put _ _, fun z => qput_has hD hh z⟩⟩, ?_, hk2.setCell (p := ⟨p, 1, none⟩) hp v2⟩
  · rintro b (h | rfl | h)
    · have := hS b h
      simp; omega
    · have := hm2.lt
      refine ⟨?_, by simpa using this⟩
      rcases hmb with h | h
      · exact (hS b h).1
      · omega
    · have := own_lt ho2 h
      simpa using this
  · rw [hcl]
    exact own_off ho2 hx2 int_ne_queue v2
  · rw [List.length_append]
    exact hm2.setCell (a := ⟨p, 1, none⟩) hne v2
  · rintro b (h | rfl | h)
    · exact .inl h
    · exact hmb
    · rcases hv2 with h2 | h2
      · exact .inl (hgS b (by rw [← h2]; exact h))
      · rw [h] at h2
        injection h2 with h2
        subst h2
        right
        have := hk1.size
        simp; omega

set_option maxHeartbeats 4000000 in
theorem QAdd_more (h : QAt B w p S q) (hB : B ≤ w.heap.size) (hl : q.length < 2 ^ 39) (y : Nat) (hy : y < 2 ^ 62) (hm : y ∉ q) (hne : q ≠ []) :
    Calls Tryd.prog 50 #[.pointer (some ⟨p, 0, none⟩), .int .i64 y] w fun e w' => (∃ c : Int, e = .returned (.tuple #[.int .i64 c, .bool true])) ∧ ∃ S', QAt B w' p S' (q ++ [y]) ∧ (∀ b, S' b → S b ∨ w.heap.size ≤ b) ∧ QKeeps S w w' := by
  obtain ⟨m, v, h1, h2, h3, h4, h5, h6⟩ := h
  obtain ⟨_, mb, D, rfl, k2, k3, k4, k5⟩ := h6.resolve_left (fun e => hne e.1)
  have hkey : keyOf Tryd.prog 3 (.int .i64 y) = some (qkey y) := keyOf_int_mk Tryd.underlying3 (WalkArith.wf_i64 (by omega))
  have hhas := k5 y
  rw [decide_eq_false hm] at hhas
  have K5 := Lib.hid k5
  have hen := run_eql_map_nil (P := Tryd.prog) w _ _ _ (some mb) Tryd.underlying77
  have hlen : (castL q).length = q.length := length_castL q
  obtain ⟨A0, c0, rfl, hI⟩ := h4.form
  rw [hlen] at h1 h4 h5
  have x0 := h1.cell (k := 0) rfl
  have x1 := h1.cell (k := 1) rfl
  have hpl := h1.lt
  have hmbl := k3.lt
  have hneb : mb ≠ p := by
    rintro rfl
    obtain ⟨es, clock, e1, _⟩ := k3
    have e2 : w.heap[mb]? = _ := h1
    rw [e1] at e2
    cases e2
  have hgp : ∀ g, Value.ownBlock (.slice A0 q.length c0) = some g → g ≠ p ∧ g ≠ mb ∧ g < w.heap.size := fun g hg => by
    obtain ⟨a, b2, c2⟩ := h4.2.resolve_left (fun e => by rw [e.1] at hg; cases hg)
    obtain ⟨cur, e0, e1, e2, _⟩ := c2
    have : g = a := by rw [e0] at hg; simp [Value.ownBlock] at hg; exact hg.symm
    subst this
    refine ⟨?_, ?_, (Array.getElem?_eq_some_iff.1 e2).1⟩
    · rintro rfl
      have e3 : w.heap[g]? = _ := h1
      rw [e2] at e3
      injection e3 with e3
      injection e3 with _ e3
      exact int_ne_queue e3
    · rintro rfl
      obtain ⟨es, clock, e3, _⟩ := k3
      rw [e2] at e3
      cases e3
  have hbox := Lib.hid (show ∀ w1 : World, (w.drewN 1).grownBy w1 (some mb) → BoxN w1 p 79 #[.map (some mb), .slice A0 q.length c0] from fun w1 hg => (hg.block p hpl (fun e => hneb (by injection e with e; exact e.symm))).trans h1)
  have hbox2 := Lib.hid (fun (w1 w2 : World) (hx : BoxN w1 p 79 #[.map (some mb), .slice A0 q.length c0]) (_ : w.heap.size ≤ w1.heap.size) {o : Obj} (hg : (w1.alloc o).grownBy w2 (Value.ownBlock (.slice A0 q.length c0))) => (qbox2 hx hg (fun e => (hgp p e).1 rfl)))
  have hrow := Lib.hid (show ∀ w1 : World, (w.drewN 1).grownBy w1 (some mb) → OwnI w1 B (.slice A0 q.length c0) (castL q) from fun w1 hg => World.ownsRow.kept h4 (⟨hg.os, hg.tape, hg.output, hg.size, hg.block⟩ : w.grownBy w1 (some mb)) (by
    cases hob : Value.ownBlock (.slice A0 q.length c0) with
    | none => exact .inl rfl
    | some g => exact .inr (fun e => (hgp g hob).2.1 (Option.some.inj e))))
  have HG := Lib.hid hgp
  have H3 := Lib.hid h3
  have H5 := Lib.hid h5
  have hpl2 : (castL q ++ [(y : Int)]).length = q.length + 1 := by simp [length_castL]
  clear h3 h5 h6 k5 hm hgp hI h4
  go_enter Tryd.func50, Tryd.ntmps50
  go_wp2_with (at_lookup; refine wpList_lookup_own_ok_int w rfl _ _ 77 rfl 3 3 .i64 qlaw Tryd.underlying77 Tryd.underlying3 (qzero _) mb _ D rfl k3 _ _ rfl hkey ?_; intro c hat hwc; rw [hhas])
  refine wp_still_tailD 10 (by kernel_rfl) (by kernel_rfl) ?_
  simp only [List.take_succ_cons, List.take_zero, List.drop_succ_cons, List.drop_zero]
  repeat still_step
  refine wpStill_nil ?_
  have k3d : (w.drewN 1).ownsMap Tryd.prog 3 (plainElem Tryd.prog 3) mb q.length D := k3
  go_wp2_with (first | (at_mapUpdate; refine wpList_mapUpdate_own _ rfl _ _ _ 77 rfl 3 3 qlaw Tryd.underlying77 _ mb _ _ rfl k3d (by unfold maxLen; omega) _ _ _ rfl rfl hkey _ [] (plainElem_int Tryd.underlying3 (WalkArith.wf_i64 (by omega))) ?_; intro w1 hown1 hgrow1; have hx1 := hbox.out w1 hgrow1; have z1 := hx1.cell (k := 1) rfl; have zf := hx1.free 1; have ho1 := hrow.out w1 hgrow1; have hsz1 := hgrow1.size) | (at_builtin; refine wpList_push_int rfl _ _ rfl (base := B) rfl (ho1.next ((Below.refl _ w1).alloc (Nat.le_refl _) _)) w1.heap.size (y : Int) rfl (cell_of_row _ _ 0 _ _ _ (heap_alloc_new w1 _)) (by rw [length_castL]; omega) (by simp at hsz1 ⊢; omega) ?_; intro v2 w2 ho2 hg2 hv2 _; obtain ⟨A2, c2, hv2e, _⟩ := ho2.form; rw [hpl2] at hv2e; subst hv2e; have hx2 := hbox2.out w1 w2 hx1 hgrow1.size hg2; have y1 := hx2.cell (k := 1) rfl; have yf := hx2.free 1))
  go_ret2
  exact ⟨⟨_, rfl⟩, qadd_end hx2 H3.out hB h2 (.inl k2) hneb H5.out (fun e => (HG.out mb e).2.1 rfl) ((QKeeps.refl S w).grown (⟨hgrow1.os, hgrow1.tape, hgrow1.output, hgrow1.size, hgrow1.block⟩ : w.grownBy w1 (some mb)) (fun g hg => .inl (by injection hg with hg; subst hg; exact k2))) hg2 hv2 ho2 hown1 k4 K5.out⟩

set_option maxHeartbeats 4000000 in
theorem QAdd_first (h : QAt B w p S []) (hB : B ≤ w.heap.size) (y : Nat) (hy : y < 2 ^ 62) :
    Calls Tryd.prog 50 #[.pointer (some ⟨p, 0, none⟩), .int .i64 y] w fun e w' => (∃ c : Int, e = .returned (.tuple #[.int .i64 c, .bool true])) ∧ ∃ S', QAt B w' p S' [y] ∧ (∀ b, S' b → S b ∨ w.heap.size ≤ b) ∧ QKeeps S w w' := by
  obtain ⟨m, v, h1, h2, h3, h4, h5, h6⟩ := h
  have hkey : keyOf Tryd.prog 3 (.int .i64 y) = some (qkey y) := keyOf_int_mk Tryd.underlying3 (WalkArith.wf_i64 (by omega))
  obtain ⟨_, rfl, rfl⟩ := h6.resolve_right (fun e => e.1 rfl)
  have hpl := h1.lt
  have hmm := @run_makeMap Tryd.prog
  have hen := run_eql_map_nil (P := Tryd.prog) w _ _ _ none Tryd.underlying77
  have hs0 : (w.setCell ⟨p, 0, none⟩ (.map (some w.heap.size))).heap.size = w.heap.size := by simp
  generalize hW0 : (w.setCell ⟨p, 0, none⟩ (.map (some w.heap.size))).alloc (.map #[] 0) = W0
  have hm0 : W0.ownsMap Tryd.prog 3 (plainElem Tryd.prog 3) w.heap.size 0 (.map [] : DataW Unit) := by
    rw [← hW0]
    have := World.ownsMap_made (H := Unit) (w.setCell ⟨p, 0, none⟩ (.map (some w.heap.size))) Tryd.prog 3 (plainElem Tryd.prog 3)
    rwa [hs0] at this
  have hhas : Maps.has (.map [] : DataW Unit) (qkey y) = false := rfl
  have hx0 : BoxN W0 p 79 #[.map (some w.heap.size), .slice none 0 0] := by rw [← hW0]; exact (h1.set 0 _).alloc _
  have hk0 : QKeeps S w W0 := by rw [← hW0]; exact ((QKeeps.refl S w).setCell (p := ⟨p, 0, none⟩) h2 _).alloc _
  have hs1 : w.heap.size + 1 = W0.heap.size := by rw [← hW0]; simp
  have hne : w.heap.size ≠ p := by omega
  have hbox := Lib.hid (show ∀ w1 : World, (W0.drewN 1).grownBy w1 (some w.heap.size) → BoxN w1 p 79 #[.map (some w.heap.size), .slice none 0 0] from fun w1 hg => (hg.block p hx0.lt (fun e => hne (by injection e with e; exact e.symm))).trans hx0)
  have hbox2 := Lib.hid (fun (w1 w2 : World) (hx : BoxN w1 p 79 #[.map (some w.heap.size), .slice none 0 0]) (_ : W0.heap.size ≤ w1.heap.size) {o : Obj} (hg : (w1.alloc o).grownBy w2 (Value.ownBlock (.slice none 0 0))) => (qbox2 hx hg (fun e => by cases e)))
  have hrow := Lib.hid (show ∀ w1 : World, (W0.drewN 1).grownBy w1 (some w.heap.size) → OwnI w1 B (.slice none 0 0) [] from fun w1 hg => OwnI.nil _ _)
  have x0 := h1.cell (k := 0) rfl
  have x1 := h1.cell (k := 1) rfl
  have f0 := (h1.alloc (.map #[] 0)).free 0
  have z0 := hx0.cell (k := 0) rfl
  have z1 := hx0.cell (k := 1) rfl
  have H3 := Lib.hid h3
  have Hs1 := Lib.hid hs1
  clear h4 h5 h6 h3 hs0 hs1
  go_enter Tryd.func50, Tryd.ntmps50
  go_wp2_with (at_lookup; refine wpList_lookup_own_ok_int _ rfl _ _ 77 rfl 3 3 .i64 qlaw Tryd.underlying77 Tryd.underlying3 (qzero _) w.heap.size 0 (.map [] : DataW Unit) rfl hm0 _ _ rfl hkey ?_; intro c hat hwc; rw [hhas])
  refine wp_still_tailD 10 (by kernel_rfl) (by kernel_rfl) ?_
  simp only [List.take_succ_cons, List.take_zero, List.drop_succ_cons, List.drop_zero]
  repeat still_step
  refine wpStill_nil ?_
  have hm0 : (W0.drewN 1).ownsMap Tryd.prog 3 (plainElem Tryd.prog 3) w.heap.size 0 (.map [] : DataW Unit) := hm0
  go_wp2_with (first | (at_mapUpdate; refine wpList_mapUpdate_own _ rfl _ _ _ 77 rfl 3 3 qlaw Tryd.underlying77 _ w.heap.size _ _ rfl hm0 (by unfold maxLen; omega) _ _ _ rfl rfl hkey _ [] (plainElem_int Tryd.underlying3 (WalkArith.wf_i64 (by omega))) ?_; intro w1 hown1 hgrow1; have hx1 := hbox.out w1 hgrow1; have z1 := hx1.cell (k := 1) rfl; have zf := hx1.free 1; have ho1 := hrow.out w1 hgrow1; have hsz1 := hgrow1.size) | (at_builtin; refine wpList_push_int (xs := []) rfl _ _ rfl (base := B) rfl (ho1.next ((Below.refl _ w1).alloc (Nat.le_refl _) _)) w1.heap.size (y : Int) rfl (cell_of_row _ _ 0 _ _ _ (heap_alloc_new w1 _)) (by simp) (by have := Hs1.out; simp at hsz1 ⊢; omega) ?_; intro v2 w2 ho2 hg2 hv2 _; obtain ⟨A2, c2, hv2e, _⟩ := ho2.form; subst hv2e; have hx2 := hbox2.out w1 w2 hx1 hgrow1.size hg2; have y1 := hx2.cell (k := 1) rfl; have yf := hx2.free 1))
  go_ret2
  exact ⟨⟨_, rfl⟩, qadd_end (q := []) hx2 H3.out hB h2 (.inr (Nat.le_refl _)) hne (fun g hg => by simp [Value.ownBlock] at hg) (by simp [Value.ownBlock]) (hk0.grown (⟨hgrow1.os, hgrow1.tape, hgrow1.output, hgrow1.size, hgrow1.block⟩ : W0.grownBy w1 (some w.heap.size)) (fun g hg => .inr (by injection hg with hg; omega))) hg2 hv2 ho2 hown1 isMap_empty (fun z => by rw [decide_eq_false List.not_mem_nil]; rfl)⟩

theorem QAdd_new (h : QAt B w p S q) (hB : B ≤ w.heap.size) (hl : q.length < 2 ^ 39) (y : Nat) (hy : y < 2 ^ 62) (hm : y ∉ q) :
    Calls Tryd.prog 50 #[.pointer (some ⟨p, 0, none⟩), .int .i64 y] w fun e w' => (∃ c : Int, e = .returned (.tuple #[.int .i64 c, .bool true])) ∧ ∃ S', QAt B w' p S' (q ++ [y]) ∧ (∀ b, S' b → S b ∨ w.heap.size ≤ b) ∧ QKeeps S w w' := by
  by_cases hq : q = []
  · subst hq
    exact QAdd_first h hB y hy
  · exact QAdd_more h hB hl y hy hm hq

theorem QLen_any (h : QAt B w p S q) : Calls Tryd.prog 51 #[.pointer (some ⟨p, 0, none⟩)] w fun e w' => e = .returned (.int .i64 q.length) ∧ w = w' := by
  obtain ⟨m, v, h1, h2, h3, h4, h5, h6⟩ := h
  obtain ⟨A0, c0, rfl, hI⟩ := h4.form
  rw [length_castL] at h1
  have x1 := h1.cell (k := 1) rfl
  clear h1 h2 h3 h4 h5 h6 hI
  go_enter Tryd.func51, Tryd.ntmps51
  go_wp2
  go_ret
  exact ⟨rfl, rfl⟩
theorem QAt_any (h : QAt B w p S q) {i : Nat} (hi : i < q.length) (hl : q.length < 2 ^ 39) : Calls Tryd.prog 52 #[.pointer (some ⟨p, 0, none⟩), .int .i64 i] w fun e w' => e = .returned (.int .i64 (q.getD i 0 : Nat)) ∧ w = w' := by
  obtain ⟨m, v, h1, h2, h3, h4, h5, h6⟩ := h
  obtain ⟨A0, c0, rfl, hI⟩ := h4.form
  obtain ⟨b, off, rfl, hc⟩ := hI.row hi
  rw [length_castL] at h1
  have x1 := h1.cell (k := 1) rfl
  have e : row q i = q.getD i 0 := by unfold row; rw [List.getD_eq_getElem?_getD]
  rw [e] at hc
  clear h1 h2 h3 h4 h5 h6 hI
  generalize q.getD i 0 = z at *
  go_enter Tryd.func52, Tryd.ntmps52
  go_wp2
  go_ret
  exact ⟨rfl, rfl⟩
end
end Go.Proofs.YtndeplakkhfmlaaDoor
