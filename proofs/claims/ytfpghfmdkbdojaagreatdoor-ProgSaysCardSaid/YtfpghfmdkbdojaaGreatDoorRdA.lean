/-
  A reader of a program's text in memory; its small methods.
-/
import Derived.Test.YtfpghfmdkbdojaaGreatDoorRdL
import Derived.Test.YtfpghfmdkbdojaaGreatDoorPush
import Derived.Test.YtfpghfmdkbdojaaGreatDoorBox
import Derived.Test.YtfpghfmdkbdojaaGreatDoorWithin
import Derived.Test.YtfpghfmdkbdojaaGreatDoorOver
import Derived.Test.YtfpghfmdkbdojaaGreatDoorPushOne
import Derived.Deep.QuietTactic
import Derived.BigQuiet
import Derived.Deep.RegionLaw
namespace Go.Proofs.YtfpghfmdkbdojaaGreatDoor
open Go.RowKit
set_option maxRecDepth 100000
set_option linter.unusedVariables false

theorem eNodes : EInfo Tryz.prog 22 39 5 40 := EInfo.of (z := .agg #[.int .i64 0, .int .i64 0, .int .i64 0, .int .i64 0, .int .i64 0]) Tryz.underlying22 (by kernel_rfl) rfl (by decide)
theorem node_ne_rd : (39 : TypeId) ≠ 64 := by decide
/-- n nodes, five numbers each, in a row of one's own. -/
def OwnN (w : World) (B : Nat) (v : Value) (n : Nat) (o : List Int) : Prop := o.length = n * 5 ∧ w.ownsRow B 39 5 v n (o.map (.int .i64))
theorem OwnN.nil (w : World) (B : Nat) : OwnN w B (.slice none 0 0) 0 [] := ⟨rfl, World.ownsRow_nil w B _ 5⟩
theorem OwnN.form {w : World} {B : Nat} {v : Value} {n : Nat} {o : List Int} (h : OwnN w B v n o) : ∃ A c, v = .slice A n c := ownsRow_form h.2
/-- A reader: its text, where it is, the nodes so far. -/
structure RdAt (w : World) (r : Nat) (s : ByteArray) (p n : Nat) (v : Value) (o : List Int) : Prop where
  box : BoxN w r 64 #[.string s, .int .i64 p, v]
  own : OwnN w (r + 1) v n o
section
variable {w w' : World} {r : Nat} {s : ByteArray} {p n : Nat} {v : Value} {o : List Int}
theorem RdAt.below (h : RdAt w r s p n v o) (hb : Below w.heap.size w w') : RdAt w' r s p n v o := ⟨h.box.all hb, h.own.1, ownsRow_below h.own.2 hb (Nat.le_refl _)⟩
theorem RdAt.lt (h : RdAt w r s p n v o) : r < w.heap.size := h.box.lt
theorem RdAt.drewN (h : RdAt w r s p n v o) (k : Nat) : RdAt (w.drewN k) r s p n v o := h.below (belowD (Below.refl _ _) k)
theorem ownsRow_far1 {base size : Nat} {e t : TypeId} {xs : List Value} {vs : Array Value} {b k : Nat} (h : w.ownsRow base e size v n xs) (hb : b < base) (x : Value) : (w.setCell ⟨b, k, none⟩ x).ownsRow base e size v n xs := by
  refine ⟨h.1, ?_⟩
  rcases h.2 with h0 | ⟨g, cap, cur, hv, hg, hc, r⟩
  · exact .inl h0
  · exact .inr ⟨g, cap, cur, hv, hg, (Below.heap_setCell w ⟨b, k, none⟩ x g (by show g ≠ b; omega)).trans hc, r⟩
theorem RdAt.move (h : RdAt w r s p n v o) (p' : Nat) : RdAt (w.setCell ⟨r, 1, none⟩ (.int .i64 p')) r s p' n v o :=
  ⟨h.box.set 1 _, h.own.1, ownsRow_far1 (t := 3) (vs := #[]) h.own.2 (Nat.lt_succ_self r) _⟩
end

/-- The byte there, 0 behind the end. -/
def peekV (s : ByteArray) (p : Nat) : Int := ((s.data.toList.getD p 0).toNat : Int)
theorem peekV_at {s : ByteArray} {p : Nat} (h : p < s.size) : peekV s p = (s[p].toNat : Int) := by
  unfold peekV
  rw [List.getD_eq_getElem?_getD, List.getElem?_eq_getElem (by simpa using h)]
  rfl
theorem peekV_end {s : ByteArray} {p : Nat} (h : s.size ≤ p) : peekV s p = 0 := by
  unfold peekV
  rw [List.getD_eq_getElem?_getD, List.getElem?_eq_none (by simpa using h)]
  rfl

/-- What a method leaves: the reader elsewhere; nothing ahead of it has turned. -/
def RdTo (r : Nat) (s : ByteArray) (p : Nat) (o : List Int) (w w' : World) : Prop := (∃ n v, RdAt w' r s p n v o) ∧ Below r w w'
theorem RdTo.trans {r : Nat} {s : ByteArray} {p q : Nat} {o o' : List Int} {w w1 w2 : World} (h : Below r w w1) (k : RdTo r s q o' w1 w2) : RdTo r s q o' w w2 := ⟨k.1, h.trans k.2⟩
section
variable {w : World} {r : Nat} {s : ByteArray} {p n : Nat} {v : Value} {o : List Int}
theorem RdAt.text (h : RdAt w r s p n v o) : w.cell? ⟨r, 0, none⟩ = some (.string s) := h.box.cell (k := 0) rfl
theorem RdAt.at_ (h : RdAt w r s p n v o) : w.cell? ⟨r, 1, none⟩ = some (.int .i64 p) := h.box.cell (k := 1) rfl
theorem RdAt.out (h : RdAt w r s p n v o) : w.cell? ⟨r, 2, none⟩ = some v := h.box.cell (k := 2) rfl

set_option maxHeartbeats 2000000 in
theorem peek_any (h : RdAt w r s p n v o) (hs : s.size ≤ 300) (hp : p ≤ 400) :
    Calls Tryz.prog 61 #[.pointer (some ⟨r, 0, none⟩)] w fun e w' => e = .returned (.int .u8 (peekV s p)) ∧ RdAt w' r s p n v o ∧ Below w.heap.size w w' := by
  have x0 := h.text
  have x1 := h.at_
  have hp0 : (0 : Int) ≤ (p : Int) := by omega
  have H := Lib.hid h
  clear h
  by_cases hlt : p < s.size
  · have Hv := Lib.hid (peekV_at hlt)
    have hlt2 : (p : Int) < (s.size : Int) := by omega
    go_enter Tryz.func61, Tryz.ntmps61
    go_wp2_with fail
    go_quiet (fail)
    go_wp2_with fail
    go_quiet (fail)
    go_wp2_with fail
    go_ret
    exact ⟨by rw [Hv.out]; rfl, (H.out.drewN _).drewN _, belowD (belowD (Below.refl _ _) _) _⟩
  · have Hv := Lib.hid (peekV_end (by omega : s.size ≤ p))
    have d1 : decide ((p : Int) < (s.size : Int)) = false := by simp; omega
    have d2 : decide (p < s.size) = false := by simp; omega
    go_enter Tryz.func61, Tryz.ntmps61
    go_wp2_with fail
    go_quiet (fail)
    go_wp2_with fail
    go_ret
    exact ⟨by rw [Hv.out]; rfl, H.out.drewN _, belowD (Below.refl _ _) _⟩

set_option maxHeartbeats 2000000 in
theorem next_any (h : RdAt w r s p n v o) (hs : s.size ≤ 300) (hp : p ≤ 400) :
    Calls Tryz.prog 51 #[.pointer (some ⟨r, 0, none⟩)] w fun e w' => e = .returned (.int .u8 (peekV s p)) ∧ RdAt w' r s (p + 1) n v o ∧ Below r w w' := by
  have C := Lib.hid (peek_any h hs hp)
  have hr := h.lt
  have hp2 : (p : Int) ≤ 400 := by omega
  clear h
  go_enter Tryz.func51, Tryz.ntmps51
  go_wp2_with (with_reducible refine C.out.mono ?_; rintro e w1 ⟨rfl, h1, hb1⟩; have x1 := h1.at_; have f1 := h1.box.free 1)
  go_ret
  exact ⟨rfl, h1.move (p + 1), (hb1.mono (Nat.le_of_lt hr)).setCell (Nat.le_refl r) _⟩

theorem within_is (k lo hi : Int) (b : Bool) (hb : decide (lo ≤ k ∧ k ≤ hi) = b) (V : World) : Calls Tryz.prog 16 #[.int .i64 k, .int .i64 lo, .int .i64 hi] V fun e w' => e = .returned (.bool b) ∧ V = w' := Within3_is k lo hi b V hb

theorem name_good {c : UInt8} {k : Nat} (h : nameOf c = some k) (r : Nat) (w : World) :
    Calls Tryz.prog 54 #[.pointer (some ⟨r, 0, none⟩), .int .u8 (c.toNat : Int)] w fun e w' => e = .returned (.int .i64 k) ∧ w = w' := by
  unfold nameOf at h
  split at h
  · rename_i hc
    injection h with h
    have hk : (c.toNat : Int) - 97 = (k : Int) := by omega
    have C := Lib.hid (within_is (c.toNat : Int) 97 102 true (decide_eq_true (by omega)))
    have hc2 : (97 : Int) ≤ (c.toNat : Int) := by omega
    have hc3 : (c.toNat : Int) ≤ 102 := by omega
    have Hk := Lib.hid hk
    clear h hk hc
    generalize (c.toNat : Int) = x at *
    go_enter Tryz.func54, Tryz.ntmps54
    go_wp2_with (with_reducible refine (C.out _).mono ?_; rintro e w' ⟨rfl, rfl⟩)
    go_ret
    exact ⟨ret_int (by rw [← Hk.out]), rfl⟩
  · cases h
set_option maxHeartbeats 2000000 in
theorem want_good {c : UInt8} {l : List UInt8} (h : RdAt w r s p n v o) (hs : s.size ≤ 300) (hp : p ≤ 400) (hc : peekV s p = (c.toNat : Int)) :
    Calls Tryz.prog 55 #[.pointer (some ⟨r, 0, none⟩), .int .u8 (c.toNat : Int)] w fun e w' => e = .returned (.tuple #[]) ∧ RdAt w' r s (p + 1) n v o ∧ Below r w w' := by
  have C := Lib.hid (next_any h hs hp)
  rw [hc] at C
  clear h hc
  generalize (c.toNat : Int) = x at *
  go_enter Tryz.func55, Tryz.ntmps55
  go_wp2_with (with_reducible refine C.out.mono ?_; rintro e w1 ⟨rfl, h1, hb1⟩)
  go_end0
  exact ⟨rfl, h1, hb1⟩
set_option maxHeartbeats 2000000 in
theorem ends_any (h : RdAt w r s p n v o) (hs : s.size ≤ 300) (hp : p ≤ 400) {b : Bool} (hb : endsL (s.data.toList.drop p) = b) :
    Calls Tryz.prog 37 #[.pointer (some ⟨r, 0, none⟩)] w fun e w' => e = .returned (.bool b) ∧ RdAt w' r s p n v o ∧ Below w.heap.size w w' := by
  have x0 := h.text
  have x1 := h.at_
  have hp0 : (0 : Int) ≤ (p : Int) := by omega
  have H := Lib.hid h
  clear h
  by_cases hlt : p < s.size
  · have hlt2 : (p : Int) < (s.size : Int) := by omega
    have d1 : decide ((p : Int) ≥ (s.size : Int)) = false := by simp; omega
    have d2 : decide (s.size ≤ p) = false := by simp; omega
    have hv : endsL (s.data.toList.drop p) = ((s[p].toNat : Int) == 125) := by
      rw [List.drop_eq_getElem_cons (by simpa using hlt)]
      show (s.data.toList[p] == 125) = _
      rw [show s.data.toList[p] = s[p] from rfl, Bool.eq_iff_iff]
      simp [← UInt8.toNat_inj]
      omega
    have Hv := Lib.hid (hv.symm.trans hb)
    clear hv hb
    go_enter Tryz.func37, Tryz.ntmps37
    go_wp2_with fail
    go_quiet (fail)
    go_wp2_with fail
    go_ret
    exact ⟨by rw [← Hv.out]; rfl, H.out.drewN _, belowD (Below.refl _ _) _⟩
  · have d1 : decide ((p : Int) ≥ (s.size : Int)) = true := by simp; omega
    have d2 : decide (s.size ≤ p) = true := by simp; omega
    have hv : endsL (s.data.toList.drop p) = true := by rw [List.drop_eq_nil_of_le (by simpa using Nat.le_of_not_lt hlt)]; rfl
    have Hv := Lib.hid (hv.symm.trans hb)
    clear hv hb
    go_enter Tryz.func37, Tryz.ntmps37
    go_wp2_with fail
    go_quiet (fail)
    go_wp2_with fail
    go_ret
    exact ⟨by rw [← Hv.out]; rfl, H.out.drewN _, belowD (Below.refl _ _) _⟩

theorem step_push_node {w : World} {ops : Array Oper} {o : Oper} {a : Act} {K : Act → World → Prop} {Q : Exit → Act → World → Prop} {E : Prop} (hgd : o.guard = none) (s x : Operand)
    (ho : o.op = .call { callee := .builtin .append, args := #[s, x], argTypes := #[22, 22] })
    {base n : Nat} {v : Value} {l : List Int} (hs : a.eval s = v) (hown : OwnN w base v n l) (g : Nat) (k0 k1 k2 k3 k4 : Int) (hx : a.eval x = .slice (some ⟨g, 0, none⟩) 1 1) (hc : BoxN w g 39 #[.int .i64 k0, .int .i64 k1, .int .i64 k2, .int .i64 k3, .int .i64 k4])
    (hn : n < 2 ^ 40) (hbase : base ≤ w.heap.size)
    (h : ∀ B c w', OwnN w' base (.slice B (n + 1) c) (n + 1) (l ++ [k0, k1, k2, k3, k4]) → (∀ w0, Below base w0 w → Below base w0 w') → w.grownBy w' v.ownBlock → K (a.put o.dst (.slice B (n + 1) c)) w') : if Region.wanted o (yielded ops a.tmps) = true then Oper.wp Tryz.prog o a w K Q else E := by
  have hw : Region.wanted o (yielded ops a.tmps) = true := by simp [Region.wanted, hgd]
  rw [if_pos hw]
  obtain ⟨v', w', hrun, hp⟩ := run_append_cells w o.type eNodes hown.2 (some ⟨g, 0, none⟩) 1 1 [.int .i64 k0, .int .i64 k1, .int .i64 k2, .int .i64 k3, .int .i64 k4] (fun _ => ⟨g, 0, rfl, fun j u hj => by
    rw [Nat.zero_add]
    exact hc.cell (by rw [← Array.getElem?_toList]; exact hj)⟩) rfl (fun u hu => by simp at hu; rcases hu with rfl | rfl | rfl | rfl | rfl <;> rfl) (by omega) (by omega) hbase
  have hpu : OwnN w' base v' (n + 1) (l ++ [k0, k1, k2, k3, k4]) := ⟨by rw [List.length_append, hown.1]; simp; omega, by
    have := hp.own
    rw [List.map_append]
    exact this⟩
  obtain ⟨B, c, rfl⟩ := hpu.form
  have := h B c w' hpu (fun w0 hb => hp.below hown.2 hb hbase) hp.grew
  unfold Oper.wp
  simp only [execOp, ho, resolve, invoke, builtin, Sem.run_bind, Sem.run_pure, Result.andThen_ok, List.map_toArray, List.map_cons, List.map_nil, hs, hx, hrun]
  exact this
theorem OwnN.clear {B : Nat} {b k : Nat} (h : OwnN w B v n o) (hb : b < B) (x : Value) : OwnN (w.setCell ⟨b, k, none⟩ x) B v n o := ⟨h.1, ownsRow_far1 (t := 3) (vs := #[]) h.2 hb x⟩
theorem OwnN.notBox {B : Nat} {b : Nat} {vs : Array Value} (h : OwnN w B v n o) (hb : BoxN w b 64 vs) (hB : b < B) : v.ownBlock ≠ some b := by
  rcases h.2.2 with ⟨rfl, _⟩ | ⟨g, cap, cur, rfl, hg, _⟩
  · intro e; cases e
  · intro e
    have e : some g = some b := e
    injection e with e
    omega

set_option maxHeartbeats 4000000 in
theorem node_good (h : RdAt w r s p n v o) (hn : n < 80) (k0 k1 k2 k3 k4 : Int) :
    Calls Tryz.prog 38 #[.pointer (some ⟨r, 0, none⟩), .agg #[.int .i64 k0, .int .i64 k1, .int .i64 k2, .int .i64 k3, .int .i64 k4]] w fun e w' => e = .returned (.int .i64 n) ∧ RdTo r s p (o ++ [k0, k1, k2, k3, k4]) w w' := by
  obtain ⟨A, c, rfl⟩ := h.own.form
  have hr := h.lt
  have hx := BoxN.new w 39 #[.int .i64 k0, .int .i64 k1, .int .i64 k2, .int .i64 k3, .int .i64 k4]
  have hb := (Below.refl w.heap.size w).alloc (Nat.le_refl _) (.cells #[.int .i64 k0, .int .i64 k1, .int .i64 k2, .int .i64 k3, .int .i64 k4] 39)
  have h1 := h.below hb
  have hb1 := hb.mono (Nat.le_of_lt hr)
  have hs1 : (w.alloc (.cells #[.int .i64 k0, .int .i64 k1, .int .i64 k2, .int .i64 k3, .int .i64 k4] 39)).heap.size = w.heap.size + 1 := by simp
  have d80 : ((n : Int) == 80) = false := by simp; omega
  have Hs1 := Lib.hid hs1
  clear h hb hs1
  have x2 := h1.out
  go_enter Tryz.func38, Tryz.ntmps38
  go_wp2_with fail
  generalize w.alloc (.cells #[.int .i64 k0, .int .i64 k1, .int .i64 k2, .int .i64 k3, .int .i64 k4] 39) = w1 at *
  have c0 := hx.cell (k := 0) rfl
  have c1 := hx.cell (k := 1) rfl
  have c2 := hx.cell (k := 2) rfl
  have c3 := hx.cell (k := 3) rfl
  have c4 := hx.cell (k := 4) rfl
  have f2 := h1.box.free 2
  have hn40 : Hid (n < 2 ^ 40) := Lib.hid (by omega)
  have hbA : Below w1.heap.size w1 (w1.alloc (.cells #[.int .i64 k0, .int .i64 k1, .int .i64 k2, .int .i64 k3, .int .i64 k4] 39)).drew := ((Below.refl _ _).alloc (Nat.le_refl _) _).drew
  have hoA : OwnN (w1.alloc (.cells #[.int .i64 k0, .int .i64 k1, .int .i64 k2, .int .i64 k3, .int .i64 k4] 39)).drew (r + 1) (.slice A n c) n o := (h1.below hbA).own
  have hgA : BoxN (w1.alloc (.cells #[.int .i64 k0, .int .i64 k1, .int .i64 k2, .int .i64 k3, .int .i64 k4] 39)).drew w1.heap.size 39 #[.int .i64 k0, .int .i64 k1, .int .i64 k2, .int .i64 k3, .int .i64 k4] := (BoxN.new w1 _ _).drewN 1
  have hbxA := (h1.below hbA).box
  have hlow : Hid (r + 1 ≤ (w1.alloc (.cells #[.int .i64 k0, .int .i64 k1, .int .i64 k2, .int .i64 k3, .int .i64 k4] 39)).drew.heap.size) := Lib.hid (Nat.le_trans (Nat.succ_le_of_lt h1.lt) hbA.size)
  have x2A := (h1.below ((Below.refl w1.heap.size w1).alloc (Nat.le_refl _) (.cells #[.int .i64 k0, .int .i64 k1, .int .i64 k2, .int .i64 k3, .int .i64 k4] 39))).out
  have hnb := hoA.notBox hbxA (Nat.lt_succ_self r)
  go_wp2_with fail
  go_region_law ((refine step_push_node (by rfl) _ _ (by rfl) (by rfl) hoA w1.heap.size k0 k1 k2 k3 k4 (by rfl) hgA hn40.out hlow.out ?_; intro B' c' w2 ho2 hbl2 hgr2; have hb2 := (hgr2.block r (by have := hbxA.lt; exact this) hnb.symm).trans hbxA; have f2' := BoxN.free hb2 2; have x2' := BoxN.cell (k := 2) hb2 rfl))
  all_goals
    have hb3 : BoxN (w2.setCell ⟨r, 2, none⟩ (.slice B' (n + 1) c')) r 64 #[.string s, .int .i64 p, .slice B' (n + 1) c'] := BoxN.set hb2 2 (.slice B' (n + 1) c')
    have x3 := BoxN.cell (k := 2) hb3 rfl
    have hRd : RdAt (w2.setCell ⟨r, 2, none⟩ (.slice B' (n + 1) c')) r s p (n + 1) (.slice B' (n + 1) c') (o ++ [k0, k1, k2, k3, k4]) := ⟨hb3, ho2.clear (Nat.lt_succ_self r) _⟩
    have hBl : Below r w (w2.setCell ⟨r, 2, none⟩ (.slice B' (n + 1) c')) := ((hb1.trans ((hbl2 _ (hbA.mono (Nat.succ_le_of_lt h1.lt))).mono (Nat.le_succ r))).setCell (Nat.le_refl r) _)
    have HR := Lib.hid hRd
    have HB := Lib.hid hBl
    clear hRd hBl hb2 f2' x2' hb3 ho2 hbl2 hgr2
    generalize w2.setCell ⟨r, 2, none⟩ (.slice B' (n + 1) c') = w3 at *
    go_wp2_with fail
    go_ret
    exact ⟨ret_int (by omega), ⟨_, _, HR.out⟩, HB.out⟩
end
end Go.Proofs.YtfpghfmdkbdojaaGreatDoor
