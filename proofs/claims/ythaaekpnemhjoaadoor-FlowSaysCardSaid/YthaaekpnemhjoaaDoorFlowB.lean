/-
  Contracts: flow.From, flow.Fits, with their closures.
-/
import Derived.Test.YthaaekpnemhjoaaDoorFlowA
import Derived.Test.YthaaekpnemhjoaaDoorPgC
import Derived.Test.YthaaekpnemhjoaaDoorPgE
import Derived.Test.YthaaekpnemhjoaaDoorRelB
import Derived.Test.YthaaekpnemhjoaaDoorBut
namespace Go.Proofs.YthaaekpnemhjoaaDoor
open Go.RowKit Go.Shelf
set_option maxRecDepth 100000
set_option linter.unusedVariables false

/-- Of each variable what flows into it by a setting. -/
def rowsOf (l : List (Nat × Nat)) : List Nat := l.foldl (fun r p => r.set p.1 (row r p.1 ||| p.2)) (List.replicate 6 0)
theorem rowsOf_snoc (l : List (Nat × Nat)) (p : Nat × Nat) : rowsOf (l ++ [p]) = (rowsOf l).set p.1 (row (rowsOf l) p.1 ||| p.2) := by unfold rowsOf; rw [List.foldl_append]; rfl
theorem length_rowsOf (l : List (Nat × Nat)) : (rowsOf l).length = 6 := by
  unfold rowsOf
  have : ∀ (l : List (Nat × Nat)) (r : List Nat), (l.foldl (fun r p => r.set p.1 (row r p.1 ||| p.2)) r).length = r.length := fun l => by
    induction l with
    | nil => intro r; rfl
    | cons p l ih => intro r; rw [List.foldl_cons, ih, List.length_set]
  rw [this]; rfl
theorem row_set' (l : List Nat) (i j x : Nat) : row (l.set i x) j = if i = j ∧ i < l.length then x else row l j := by
  by_cases hi : i < l.length
  · rw [row_set _ _ _ _ hi]
    by_cases h : i = j
    · rw [if_pos h, if_pos ⟨h, hi⟩]
    · rw [if_neg h, if_neg (fun e => h e.1)]
  · rw [if_neg (fun e => hi e.2), List.set_eq_of_length_le (by omega)]
theorem rowsOf_bit {l : List (Nat × Nat)} (hl : ∀ p ∈ l, p.1 < 6) {i j : Nat} : (row (rowsOf l) i).testBit j = true ↔ ∃ p ∈ l, p.1 = i ∧ p.2.testBit j = true := by
  unfold rowsOf
  have : ∀ (l : List (Nat × Nat)) (r : List Nat), r.length = 6 → (∀ p ∈ l, p.1 < 6) → ((row (l.foldl (fun r p => r.set p.1 (row r p.1 ||| p.2)) r) i).testBit j = true ↔ (row r i).testBit j = true ∨ ∃ p ∈ l, p.1 = i ∧ p.2.testBit j = true) := fun l => by
    induction l with
    | nil => intro r _ _; simp
    | cons p l ih =>
      intro r hr hp
      have hp1 := hp p (List.mem_cons_self ..)
      rw [List.foldl_cons, ih _ (by simp [hr]) (fun q hq => hp q (List.mem_cons_of_mem _ hq)), row_set' ]
      simp only [List.mem_cons, exists_eq_or_imp]
      by_cases h : p.1 = i
      · subst h
        rw [if_pos ⟨rfl, by omega⟩, tb_or, Bool.or_eq_true]
        simp [or_assoc]
      · rw [if_neg (fun e => h e.1)]
        simp [h]
  rw [this l _ rfl hl]
  have h0 : row (List.replicate 6 0) i = 0 := by
    unfold row
    rw [List.getElem?_replicate]
    split <;> rfl
  rw [h0]; simp
theorem sets_lt {s : St} (hs : s.ok) : ∀ {u : Nat}, u < 64 → ∀ p ∈ s.sets u, p.1 < 6 ∧ p.2 < 64 := by
  induction s with
  | skip => intro u hu p hp; simp [St.sets] at hp
  | set x e =>
    intro u hu p hp
    simp [St.sets] at hp
    subst hp
    exact ⟨hs.1, Nat.or_lt_two_pow (n := 6) hu (Ex.names_lt hs.2)⟩
  | both a b iha ihb => intro u hu p hp; simp only [St.sets, List.mem_append] at hp; exact hp.elim (fun h => iha hs.1 hu p h) (fun h => ihb hs.2 hu p h)
  | ite e a b iha ihb =>
    intro u hu p hp
    have hu' : u ||| e.names < 64 := Nat.or_lt_two_pow (n := 6) hu (Ex.names_lt hs.1)
    simp only [St.sets, List.mem_append] at hp; exact hp.elim (fun h => iha hs.2.1 hu' p h) (fun h => ihb hs.2.2 hu' p h)
  | loop e a iha =>
    intro u hu p hp
    have hu' : u ||| e.names < 64 := Nat.or_lt_two_pow (n := 6) hu (Ex.names_lt hs.1)
    exact iha hs.2 hu' p hp
theorem rowsOf_bd {l : List (Nat × Nat)} (hl : ∀ p ∈ l, p.1 < 6 ∧ p.2 < 64) (i : Nat) : row (rowsOf l) i < 2 ^ 6 := by
  refine Nat.lt_pow_two_of_testBit _ fun j hj => ?_
  cases h : (row (rowsOf l) i).testBit j with
  | false => rfl
  | true =>
    obtain ⟨p, hp, _, hb⟩ := (rowsOf_bit fun p hp => (hl p hp).1).1 h
    have := bit_below (n := 6) (hl p hp).2 hb
    omega

/-- Do all settings fit? -/
def fitB (L : List Int) (l : List (Nat × Nat)) : Bool := l.all fun p => decide (hiI L (bitsOf p.2) ≤ gI L p.1)
theorem fitB_snoc (L : List Int) (l : List (Nat × Nat)) (p : Nat × Nat) : fitB L (l ++ [p]) = (fitB L l && decide (hiI L (bitsOf p.2) ≤ gI L p.1)) := by unfold fitB; rw [List.all_append]; simp

set_option maxHeartbeats 1000000 in
theorem From1_any {V : World} {rb g x f : Nat} {r : List Nat} (hx : BoxN V rb 23 #[.slice (some ⟨g, 0, none⟩) 6 6]) (hg : OwnAt V g 3 ((castL r).map (Value.int .i64))) (h6 : r.length = 6) (hr : ∀ i, row r i < 64) (hx6 : x < 6) (hf : f < 64) :
    Calls Tryd.prog 32 #[.int .i64 (x : Nat), .int .i64 (f : Nat), .pointer (some ⟨rb, 0, none⟩)] V fun e w' => e = .returned (.tuple #[]) ∧ w' = V.setCell ⟨g, x, none⟩ (.int .i64 (row r x ||| f : Nat)) := by
  have a1 : V.cell? ⟨rb, 0, none⟩ = some (.slice (some ⟨g, 0, none⟩) 6 6) := hx.cell rfl
  have a2 := hg.cell (get_cast_val r x (by omega))
  have a3 := hg.free x
  have Ho := Lib.hid (bits_or_nat (row r x) f (by have := hr x; omega) (by omega))
  clear hx hg hr
  generalize row r x = rx at *
  go_enter Tryd.func32, Tryd.ntmps32
  go_wp2_with fail
  go_end0
  exact ⟨rfl, by rw [Ho.out]⟩

/-- What From's closure has made of settings. -/
structure FromInv (w0 : World) (E rb g : Nat) (l : List (Nat × Nat)) (V : World) : Prop where
  low : Below w0.heap.size w0 V
  up : E ≤ V.heap.size
  box : BoxN V rb 23 #[.slice (some ⟨g, 0, none⟩) 6 6]
  row : OwnAt V g 3 ((castL (rowsOf l)).map (Value.int .i64))
  ok : ∀ p ∈ l, p.1 < 6 ∧ p.2 < 64
theorem zeros_new (w : World) (m : Nat) : OwnAt (w.alloc (.cells (madeCells #[Value.int .i64 0] m) 3)) w.heap.size 3 ((castL (List.replicate m 0)).map (Value.int .i64)) := by
  unfold castL
  rw [List.map_replicate, List.map_replicate]
  refine ⟨_, heap_alloc_new w _, ?_, ?_⟩
  · simp [← Array.length_toList, toList_madeCells_one]
  · intro j v hj
    rw [← Array.getElem?_toList, toList_madeCells_one]
    exact hj
theorem ints_ne_slices : 3 ≠ 23 := by decide
theorem from_sees {w0 : World} {E rb g : Nat} (hg : w0.heap.size ≤ g) (hgE : g < E) : Sees w0 E 32 #[.pointer (some ⟨rb, 0, none⟩)] (FromInv w0 E rb g) where
  enters := enters_of Tryd.func32 (by kernel_rfl) rfl
  low _ _ h := h.low
  up _ _ h := h.up
  keep _ _ _ h hb := ⟨h.low.trans (hb.mono h.low.size), Nat.le_trans h.up hb.size, h.box.all hb, h.row.all hb, h.ok⟩
  call l x f V h hx hf := (From1_any h.box h.row (length_rowsOf l) (rowsOf_bd h.ok) hx hf).mono fun e w' ⟨he, hw⟩ => by
    subst hw
    refine ⟨he, ⟨h.low.setCell (p := ⟨g, x, none⟩) hg _, by simp; exact h.up, h.box.other (a := ⟨g, x, none⟩) (h.row.ne_box h.box ints_ne_slices).symm _, ?_, ?_⟩, ⟨by simp, fun b hb hl => ?_⟩⟩
    · rw [rowsOf_snoc, map_set_cast]
      exact h.row.set (by rw [List.length_map, length_castL, length_rowsOf]; exact hx) _
    · intro p hp
      rcases List.mem_append.1 hp with hp | hp
      · exact h.ok p hp
      · obtain rfl := List.mem_singleton.1 hp; exact ⟨hx, hf⟩
    · exact Below.heap_setCell _ ⟨g, x, none⟩ _ b (by show b ≠ g; omega)

/-- Of each variable all that flow into it. -/
def fromL (s : St) : List Nat := closed (rowsOf (s.sets 0))
set_option maxHeartbeats 2000000 in
theorem From_ok {P : List Int} {n : Nat} {A : Option Addr} {c : Nat} {w : World} {s : St} (h : NodesAt w A P n) (hc : progCode P n = 0) (hs : IsSt P (n - 1) s) :
    Calls Tryd.prog 11 #[.slice A n c] w fun e w' => (∃ B c', e = .returned (.tuple #[.slice B 6 c', .nilIface]) ∧ IntsAt w' B (castL (fromL s))) ∧ Below w.heap.size w w' := by
  obtain ⟨⟨hn1, hn80⟩, -, -⟩ := progCode_tree hc
  have HC := PCheck_any (c := c) h
  rw [hc, errVal_zero] at HC
  have HC := Lib.hid HC
  have hmk := fun V : World => (show (Instr.makeSlice 23 (.int .i64 6) (.int .i64 6)).run Tryd.prog V = .ok (.slice (some ⟨V.heap.size, 0, none⟩) 6 6) (V.alloc (.cells (madeCells #[Value.int .i64 0] 6) 3)) by
    obtain ⟨ti, hi, hz0, hz1, hz2⟩ := info_parts intInfo
    have := run_make (P := Tryd.prog) (w := V) 23 3 ti _ Tryd.underlying23 hi hz0 .i64 .i64 6 6 (by omega) (Int.le_refl _) (by rw [hz2]; omega) (by omega)
    rw [hz1] at this
    exact this)
  have hsub : (n : Int) - 1 = ((n - 1 : Nat) : Int) := by omega
  have h1n : (1 : Int) ≤ n := by omega
  have hn40 := h.small
  go_enter Tryd.func11, Tryd.ntmps11
  go_wp2_with (go_at_call 27; with_reducible refine HC.out.mono ?_; rintro r w1 ⟨rfl, hb1⟩)
  have hs1 := hb1.size
  have hbW := (hb1.alloc hs1 (.cells (madeCells #[Value.int .i64 0] 6) 3)).alloc (by simp; omega) (.cells #[.slice (some ⟨w1.heap.size, 0, none⟩) 6 6] 23)
  have hbx := BoxN.new (w1.alloc (.cells (madeCells #[Value.int .i64 0] 6) 3)) 23 #[.slice (some ⟨w1.heap.size, 0, none⟩) 6 6]
  have hrw : OwnAt ((w1.alloc (.cells (madeCells #[Value.int .i64 0] 6) 3)).alloc (.cells #[.slice (some ⟨w1.heap.size, 0, none⟩) 6 6] 23)) w1.heap.size 3 ((castL (rowsOf [])).map (Value.int .i64)) := OwnAt.alloc (zeros_new w1 6) _
  simp only [World.size_alloc] at hbx
  have hszW : ((w1.alloc (.cells (madeCells #[Value.int .i64 0] 6) 3)).alloc (.cells #[.slice (some ⟨w1.heap.size, 0, none⟩) 6 6] 23)).heap.size = w1.heap.size + 2 := by simp
  generalize ((w1.alloc (.cells (madeCells #[Value.int .i64 0] 6) 3)).alloc (.cells #[.slice (some ⟨w1.heap.size, 0, none⟩) 6 6] 23)) = W at *
  have HE : Calls Tryd.prog 29 #[.slice A n c, .int .i64 ((n - 1 : Nat) : Int), .int .i64 0, .func (.func 32) #[] #[.pointer (some ⟨w1.heap.size + 1, 0, none⟩)]] W fun e w' => e = .returned (.tuple #[]) ∧ FromInv w (w1.heap.size + 2) (w1.heap.size + 1) w1.heap.size ([] ++ s.sets 0) w' ∧ KeepsUp (w1.heap.size + 2) W w' :=
    each_any (from_sees (by omega) (by omega)) h hs (by omega) 0 [] W (by decide) ⟨hbW, by omega, hbx, hrw, fun p hp => by cases hp⟩
  refine HE.mono ?_
  rintro r w2 ⟨rfl, hI, -⟩
  have hrb := rowsOf_bd hI.ok
  have hcl := Closure_ok (rowsOf ([] ++ s.sets 0)) (by rw [length_rowsOf]; decide) (fun i => by rw [length_rowsOf]; exact hrb i) (some ⟨w1.heap.size, 0, none⟩) 6 w2 hI.row.ints
  rw [length_rowsOf] at hcl
  rw [List.nil_append] at hcl
  have Hcl := Lib.hid hcl
  have e1 : w2.cell? ⟨w1.heap.size + 1, 0, none⟩ = some (.slice (some ⟨w1.heap.size, 0, none⟩) 6 6) := hI.box.cell rfl
  have hlow := hI.low
  clear hI hrb hcl HE hbW hbx hrw hmk HC
  go_wp2_with fail
  refine Hcl.out.mono ?_
  rintro r w3 ⟨B, c', rfl, hints, hb3⟩
  go_wp2_with fail
  go_ret2
  exact ⟨⟨B, c', rfl, hints⟩, hlow.trans (hb3.mono hlow.size)⟩
theorem From_bad {P : List Int} {n : Nat} {A : Option Addr} {c : Nat} {w : World} {k : Nat} (h : NodesAt w A P n) (hc : progCode P n = k) (hk : k ≠ 0) :
    Calls Tryd.prog 11 #[.slice A n c] w fun e w' => e = .returned (.tuple #[.slice none 0 0, .iface 62 (.int .i64 k)]) ∧ Below w.heap.size w w' := by
  have HC := PCheck_any (c := c) h
  rw [hc, errVal_pos hk] at HC
  have HC := Lib.hid HC
  clear hc hk
  go_enter Tryd.func11, Tryd.ntmps11
  go_wp2_with (go_at_call 27; with_reducible refine HC.out.mono ?_; rintro r w1 ⟨rfl, hb1⟩)
  go_ret2
  exact ⟨rfl, hb1⟩

theorem Fits1_false {V : World} {ob lb x f : Nat} (a1 : V.cell? ⟨ob, 0, none⟩ = some (.bool false)) (f1 : V.frozen? ⟨ob, 0, none⟩ = false) :
    Calls Tryd.prog 30 #[.int .i64 (x : Nat), .int .i64 (f : Nat), .pointer (some ⟨ob, 0, none⟩), .pointer (some ⟨lb, 0, none⟩)] V fun e w' => e = .returned (.tuple #[]) ∧ w' = (V.setCell ⟨ob, 0, none⟩ (.bool false)).drew := by
  go_enter Tryd.func30, Tryd.ntmps30
  go_wp2_with fail
  go_region
  all_goals (go_end0; exact ⟨rfl, rfl⟩)
set_option maxHeartbeats 2000000 in
theorem Fits1_any {w0 V : World} {ob lb b off c x f : Nat} {L : List Int} {ok : Bool} (ho : BoxN V ob 4 #[.bool ok]) (hl : BoxN V lb 23 #[.slice (some ⟨b, off, none⟩) 6 c]) (hne : b < w0.heap.size) (hob : w0.heap.size ≤ ob) (hlow : Below w0.heap.size w0 V)
    (hL : IntsAt w0 (some ⟨b, off, none⟩) L) (h6 : L.length = 6) (hT : Tab w0) (hx6 : x < 6) (hf : f < 64) :
    Calls Tryd.prog 30 #[.int .i64 (x : Nat), .int .i64 (f : Nat), .pointer (some ⟨ob, 0, none⟩), .pointer (some ⟨lb, 0, none⟩)] V fun e w' => e = .returned (.tuple #[]) ∧ BoxN w' ob 4 #[.bool (ok && decide (hiI L (bitsOf f) ≤ gI L x))] ∧ KeepsBut ob V w' ∧ Below w0.heap.size w0 w' := by
  have hnl : ob ≠ lb := by
    rintro rfl
    have h1 : V.heap[ob]? = some (.cells #[.bool ok] 4 (0, 0)) := ho
    have h2 : V.heap[ob]? = some (.cells #[.slice (some ⟨b, off, none⟩) 6 c] 23 (0, 0)) := hl
    rw [h1] at h2
    injection h2 with h2
    injection h2 with _ h3
    exact absurd h3 (by decide)
  have a1 : V.cell? ⟨ob, 0, none⟩ = some (.bool ok) := ho.cell rfl
  have f1 := ho.free 0
  have hH := Lib.hid (fun X (hX : Below V.heap.size V X) => highest_any (c := c) h6 (hL.below (hlow.trans (hX.mono hlow.size))) (hT.next (hlow.trans (hX.mono hlow.size))) hf)
  obtain ⟨b', off', hA, hcl⟩ := hL (by intro e; rw [e] at h6; cases h6)
  injection hA with hA
  injection hA with hA1 hA2
  subst hA1; subst hA2
  have c1 : w0.cell? ⟨b, off + x, none⟩ = some (.int .i64 (gI L x)) := hcl x _ (get_gI (by omega))
  have c2 := (hlow.cell (p := ⟨b, off + x, none⟩) hne).trans c1
  have l1 : V.cell? ⟨lb, 0, none⟩ = some (.slice (some ⟨b, off, none⟩) 6 c) := hl.cell rfl
  have hxi : (x : Int) < 6 := by omega
  have hKeep := Lib.hid (fun X (hX : KeepsBut ob V X) => (⟨hX.cell l1 (fun e => hnl e.symm), hX.cell c2 (by show b ≠ ob; omega)⟩ : X.cell? ⟨lb, 0, none⟩ = some (.slice (some ⟨b, off, none⟩) 6 c) ∧ X.cell? ⟨b, off + x, none⟩ = some (.int .i64 (gI L x))))
  have hbr := (Below.refl V.heap.size V).drew
  have hkr : KeepsBut ob V V.drew := KeepsBut.below hbr
  have Hlow := Lib.hid hlow
  have Ho := Lib.hid ho
  clear hL hT hcl c1 hl ho hlow h6
  generalize hiI L (bitsOf f) = hv at *
  generalize gI L x = lv at *
  cases ok with
  | false =>
    exact (Fits1_false a1 f1).mono fun e w' ⟨he, hw⟩ => by
      subst hw
      exact ⟨he, (Ho.out.set 0 (.bool false)).drew, KeepsBut.below' ((KeepsBut.refl ob V).setCell 0 (.bool false)), (Hlow.out.setCell (p := ⟨ob, 0, none⟩) hob _).drew⟩
  | true =>
    by_cases hle : hv ≤ lv
    · have hd : decide (hv ≤ lv) = true := decide_eq_true hle
      rw [hd]
      go_enter Tryd.func30, Tryd.ntmps30
      go_wp2_with fail
      go_region_with (go_at_call 31; with_reducible refine (hH.out _ hbr).mono ?_; rintro r w1 ⟨rfl, hb1⟩; have hb2 : Below V.heap.size V w1 := hbr.trans (hb1.mono hbr.size); have hk1 : KeepsBut ob V w1 := KeepsBut.below hb2; obtain ⟨l2, c3⟩ := hKeep.out w1 hk1; have fz := (Ho.out.all hb2).free 0; have cz := (Ho.out.all hb2).cell (k := 0) rfl)
      all_goals go_wp2_with fail
      all_goals go_end0
      all_goals exact ⟨rfl, (Ho.out.all hb2).set 0 (.bool true), hk1.setCell _ _, (Hlow.out.trans (hb2.mono Hlow.out.size)).setCell (p := ⟨ob, 0, none⟩) hob _⟩
    · have hd : decide (hv ≤ lv) = false := decide_eq_false hle
      rw [hd]
      go_enter Tryd.func30, Tryd.ntmps30
      go_wp2_with fail
      go_region_with (go_at_call 31; with_reducible refine (hH.out _ hbr).mono ?_; rintro r w1 ⟨rfl, hb1⟩; have hb2 : Below V.heap.size V w1 := hbr.trans (hb1.mono hbr.size); have hk1 : KeepsBut ob V w1 := KeepsBut.below hb2; obtain ⟨l2, c3⟩ := hKeep.out w1 hk1; have fz := (Ho.out.all hb2).free 0; have cz := (Ho.out.all hb2).cell (k := 0) rfl)
      all_goals go_wp2_with fail
      all_goals go_end0
      all_goals exact ⟨rfl, (Ho.out.all hb2).set 0 (.bool false), hk1.setCell _ _, (Hlow.out.trans (hb2.mono Hlow.out.size)).setCell (p := ⟨ob, 0, none⟩) hob _⟩
end Go.Proofs.YthaaekpnemhjoaaDoor
