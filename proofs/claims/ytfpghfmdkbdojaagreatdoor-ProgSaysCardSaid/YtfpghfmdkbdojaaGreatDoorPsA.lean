/-
  The document's reader of programs (quietwingref2): its state as a value; bad, sign, must.
-/
import Derived.Test.YtfpghfmdkbdojaaGreatDoorRdA
import Derived.Test.YtfpghfmdkbdojaaGreatDoorQKeep
import Derived.Laws.ResultCell
import Derived.Laws.Rows
namespace Go.Proofs.YtfpghfmdkbdojaaGreatDoor
open Go.RowKit
set_option maxRecDepth 100000
set_option linter.unusedVariables false

/-- A state as a value. -/
abbrev svA (s : ByteArray) (p : Nat) (A : Option Addr) (n c : Nat) (e : Nat) : Array Value := #[.string s, .int .i64 p, .slice A n c, .int .i64 e]
/-- What is read where nothing is wrong yet. -/
def at0 (e : Nat) (r : PR) : PR := if e = 0 then r else .bad e
theorem at0_zero (r : PR) : at0 0 r = r := rfl
theorem at0_bad {e : Nat} (h : e ≠ 0) (r : PR) : at0 e r = .bad e := if_neg h
/-- A state and a number are what was read. -/
def PsR (s : ByteArray) (r : PR) (p e : Nat) (o : List Int) (i : Int) : Prop := match r with
  | .bad k => e = k ∧ k ≠ 0
  | .good j l o' => e = 0 ∧ i = (j : Int) ∧ s.data.toList.drop p = l ∧ o = o'
theorem node_ne_st : (39 : TypeId) ≠ 57 := by decide
theorem st_ne_node : (57 : TypeId) ≠ 39 := by decide
/-- A row of nodes goes on: nothing else that was there has turned. -/
structure PsF (w w' : World) (v v' : Value) : Prop where
  keep : QKeeps (fun b => v.ownBlock = some b) w w'
  blk : ∀ g, v'.ownBlock = some g → v.ownBlock = some g ∨ w.heap.size ≤ g
section
variable {w w' w'' : World} {v v' v'' : Value} {n b : Nat} {o : List Int} {t : TypeId} {vs : Array Value}
theorem PsF.refl (w : World) (v : Value) : PsF w w v v := ⟨QKeeps.refl _ _, fun g h => .inl h⟩
theorem PsF.of_below (h : Below w.heap.size w w') (v : Value) : PsF w w' v v := ⟨QKeeps.of_below h, fun g h => .inl h⟩
theorem PsF.trans (h : PsF w w' v v') (k : PsF w' w'' v' v'') : PsF w w'' v v'' :=
  ⟨h.keep.trans k.keep fun b hb => h.blk b hb, fun g hg => (k.blk g hg).elim (fun e => h.blk g e) (fun e => .inr (Nat.le_trans h.keep.size e))⟩
theorem PsF.alloc (h : PsF w w' v v') (x : Obj) : PsF w (w'.alloc x) v v' := ⟨h.keep.alloc x, h.blk⟩
theorem PsF.drewN (h : PsF w w' v v') (k : Nat) : PsF w (w'.drewN k) v v' := ⟨h.keep.drewN k, h.blk⟩
theorem PsF.setNew (h : PsF w w' v v') {p : Addr} (hp : w.heap.size ≤ p.block) (x : Value) : PsF w (w'.setCell p x) v v' :=
  ⟨⟨h.keep.os, h.keep.tape, h.keep.output, by simpa using h.keep.size, fun b hb hn => (Below.heap_setCell w' p x b (by omega)).trans (h.keep.block b hb hn)⟩, h.blk⟩
theorem OwnN.not_box (h : OwnN w 0 v n o) (hb : BoxN w b t vs) (ht : t ≠ 39) : v.ownBlock ≠ some b := by
  rcases h.2.2 with ⟨rfl, _⟩ | ⟨g, cap, cur, rfl, hg, hc, _⟩
  · intro e; cases e
  · intro e
    have e : some g = some b := e
    injection e with e
    subst e
    have h2 : w.heap[g]? = _ := hb
    rw [hc] at h2
    injection h2 with h2
    injection h2 with _ h2
    exact ht h2.symm
theorem PsF.box (h : PsF w w' v v') (ho : OwnN w 0 v n o) (hb : BoxN w b t vs) (ht : t ≠ 39) : BoxN w' b t vs := h.keep.box hb (ho.not_box hb ht)
theorem PsF.st (h : PsF w w' v v') (ho : OwnN w 0 v n o) (hb : BoxN w b 57 vs) : BoxN w' b 57 vs := h.box ho hb st_ne_node
theorem OwnN.setBox (h : OwnN w 0 v n o) (hb : BoxN w b t vs) (ht : t ≠ 39) (k : Nat) (x : Value) : OwnN (w.setCell ⟨b, k, none⟩ x) 0 v n o := ⟨h.1, own_off h.2 hb (Ne.symm ht) x⟩
theorem OwnN.below0 (h : OwnN w 0 v n o) (hb : Below w.heap.size w w') : OwnN w' 0 v n o := ⟨h.1, ownsRow_below h.2 hb (Nat.le_refl _)⟩
theorem boxAt' (w : World) (t : TypeId) (vs : Array Value) (p : Nat) (hp : p = w.heap.size) : BoxN (w.alloc (.cells vs t)) p t vs := by subst hp; exact BoxN.new w t vs
/-- No state yet. -/
abbrev svZ : Array Value := #[.string ⟨#[]⟩, .int .i64 0, .slice none 0 0, .int .i64 0]
/-- The world where a block is laid anew, whole (four numbers). -/
def World.set4 (w : World) (b : Nat) (s : ByteArray) (p : Nat) (v : Value) (e : Nat) : World := (((w.setCell ⟨b, 0, none⟩ (.string s)).setCell ⟨b, 1, none⟩ (.int .i64 p)).setCell ⟨b, 2, none⟩ v).setCell ⟨b, 3, none⟩ (.int .i64 e)
end

/-- A result that lies in a row, alone; beside another one. -/
theorem resRow1 {P : Program} {fn : Func} {p : Tmp} {ty : TypeId} (h : fn.results = #[.cell p ty]) (tmps : Array Value) (w : World) (g : Nat) (t : TypeId) (cs : Array Value) (fr : Nat × Nat) (d : TypeDesc)
    (hp : tmps.getD p undef = .pointer (some ⟨g, 0, none⟩)) (hg : w.heap[g]? = some (.cells cs t fr))
    (hu : P.underlying ty = some d) (hd : (match d with | .struct _ | .array _ _ => true | _ => false) = true) (hi : (P.info? ty).map (·.size) = some cs.size) :
    (results fn tmps).run P w = .ok (.agg cs) w := by
  have e : (results fn tmps).run P w = ((asAddr (tmps.getD p undef)).run P w).andThen fun a w₁ => (loadVar ty a).run P w₁ := by
    simp only [results, h]
    simp [Sem.run_bind, Result.andThen]
  rw [e, hp]
  simp [asAddr, Result.andThen, run_loadVar_row w g t ty cs fr d hg hu hd hi]
theorem resRowTmp {P : Program} {fn : Func} {p u : Tmp} {ty : TypeId} (h : fn.results = #[.cell p ty, .tmp u]) (tmps : Array Value) (w : World) (g : Nat) (t : TypeId) (cs : Array Value) (fr : Nat × Nat) (d : TypeDesc)
    (hp : tmps.getD p undef = .pointer (some ⟨g, 0, none⟩)) (hg : w.heap[g]? = some (.cells cs t fr))
    (hu : P.underlying ty = some d) (hd : (match d with | .struct _ | .array _ _ => true | _ => false) = true) (hi : (P.info? ty).map (·.size) = some cs.size) :
    (results fn tmps).run P w = .ok (.tuple #[.agg cs, tmps.getD u undef]) w := by
  rw [results_cell_tmp h, hp]
  simp [asAddr, Result.andThen, run_loadVar_row w g t ty cs fr d hg hu hd hi]
theorem two_boxes (w : World) (vs us : Array Value) (t : TypeId) : BoxN ((w.alloc (.cells vs t)).alloc (.cells us t)) w.heap.size t vs ∧ BoxN ((w.alloc (.cells vs t)).alloc (.cells us t)) (w.heap.size + 1) t us ∧ Below w.heap.size w ((w.alloc (.cells vs t)).alloc (.cells us t)) :=
  ⟨(BoxN.new w t vs).alloc _, boxAt' _ _ _ _ (by simp), ((Below.refl _ _).alloc (Nat.le_refl _) _).alloc (by simp) _⟩

set_option maxHeartbeats 4000000 in
/-- bad: what is wrong first stays. -/
theorem RBad_any (s : ByteArray) (p e k : Nat) (A : Option Addr) (n c : Nat) (w : World) :
    Calls Tryz.prog 25 #[.agg (svA s p A n c e), .int .i64 k] w fun r w' => r = .returned (.agg (svA s p A n c (if e = 0 then k else e))) ∧ Below w.heap.size w w' := by
  unfold svA at *
  by_cases h0 : e = 0
  · subst h0
    go_enter Tryz.func25, Tryz.ntmps25
    go_wp2_with fail
    obtain ⟨hx, hz, hb⟩ := two_boxes w #[.string s, .int .i64 p, .slice A n c, .int .i64 k] #[.string s, .int .i64 p, .slice A n c, .int .i64 k] 57
    refine bodyPost_ret (resRow1 rfl _ _ (w.heap.size + 1) 57 #[.string s, .int .i64 p, .slice A n c, .int .i64 k] (0, 0) _ rfl hz Tryz.underlying57 rfl (by kernel_rfl)) rfl ?_
    exact ⟨rfl, hb⟩
  · have d0 : ((e : Int) == 0) = false := by simp; omega
    rw [if_neg h0]
    go_enter Tryz.func25, Tryz.ntmps25
    go_wp2_with fail
    obtain ⟨hx, hz, hb⟩ := two_boxes w #[.string s, .int .i64 p, .slice A n c, .int .i64 e] #[.string s, .int .i64 p, .slice A n c, .int .i64 e] 57
    refine bodyPost_ret (resRow1 rfl _ _ (w.heap.size + 1) 57 #[.string s, .int .i64 p, .slice A n c, .int .i64 e] (0, 0) _ rfl hz Tryz.underlying57 rfl (by kernel_rfl)) rfl ?_
    exact ⟨rfl, hb⟩
/-- The next byte is that one, and nothing is wrong yet. -/
def isNext (s : ByteArray) (p e : Nat) (c : UInt8) : Bool := decide (e = 0 ∧ (s.data.toList.drop p).head? = some c)
theorem isNext_yes {s : ByteArray} {p e : Nat} {c : UInt8} (h : isNext s p e c = true) : e = 0 ∧ p < s.size ∧ ∃ l, s.data.toList.drop p = c :: l := by
  obtain ⟨h1, h2⟩ := of_decide_eq_true h
  cases hd : s.data.toList.drop p with
  | nil => rw [hd] at h2; cases h2
  | cons x l =>
    rw [hd] at h2
    injection h2 with h2
    subst h2
    have : s.data.toList.length = s.size := by simp
    have := congrArg List.length hd
    simp only [List.length_drop, List.length_cons] at this
    exact ⟨h1, by omega, l, rfl⟩
theorem head_at {s : ByteArray} {p : Nat} (h : p < s.size) : (s.data.toList.drop p).head? = some s[p] := by
  rw [List.drop_eq_getElem_cons (by simpa using h)]
  rfl
set_option maxHeartbeats 8000000 in
theorem RSign_any {s : ByteArray} {p e : Nat} {A : Option Addr} {n cc : Nat} {w : World} {c : UInt8} {x : Int} (hx : (c.toNat : Int) = x) (hs : s.size ≤ 300) (hp : p ≤ s.size) :
    Calls Tryz.prog 46 #[.agg (svA s p A n cc e), .int .u8 x] w fun r w' => r = .returned (.tuple #[.agg (svA s (if isNext s p e c then p + 1 else p) A n cc e), .bool (isNext s p e c)]) ∧ Below w.heap.size w w' := by
  unfold svA at *
  by_cases h0 : e = 0
  · subst h0
    by_cases hlt : p < s.size
    · have hlt2 : (p : Int) < (s.size : Int) := by omega
      have hp0 : (0 : Int) ≤ (p : Int) := by omega
      have hp3 : (p : Int) ≤ 300 := by omega
      by_cases hc : s[p] = c
      · have hn : isNext s p 0 c = true := decide_eq_true ⟨rfl, by rw [head_at hlt, hc]⟩
        have de : ((s[p].toNat : Int) == x) = true := by rw [hc]; simpa using hx
        rw [hn, if_pos rfl]
        clear hn hx hc
        go_enter Tryz.func46, Tryz.ntmps46
        go_wp2_with fail
        obtain ⟨hx, hz, hb⟩ := two_boxes w #[.string s, .int .i64 ((p + 1 : Nat) : Int), .slice A n cc, .int .i64 0] #[.string s, .int .i64 ((p + 1 : Nat) : Int), .slice A n cc, .int .i64 0] 57
        refine bodyPost_ret (resRowTmp rfl _ _ (w.heap.size + 1) 57 #[.string s, .int .i64 ((p + 1 : Nat) : Int), .slice A n cc, .int .i64 0] (0, 0) _ rfl hz Tryz.underlying57 rfl (by kernel_rfl)) rfl ?_
        exact ⟨rfl, hb⟩
      · have hn : isNext s p 0 c = false := decide_eq_false (fun h => hc (by have := h.2; rw [head_at hlt] at this; injection this))
        have de : ((s[p].toNat : Int) == x) = false := by
          simp only [beq_eq_false_iff_ne]
          intro e
          exact hc (UInt8.toNat_inj.1 (by omega))
        rw [hn, if_neg (by decide)]
        clear hn hx hc
        go_enter Tryz.func46, Tryz.ntmps46
        go_wp2_with fail
        obtain ⟨hx, hz, hb⟩ := two_boxes w #[.string s, .int .i64 p, .slice A n cc, .int .i64 0] #[.string s, .int .i64 p, .slice A n cc, .int .i64 0] 57
        refine bodyPost_ret (resRowTmp rfl _ _ (w.heap.size + 1) 57 #[.string s, .int .i64 p, .slice A n cc, .int .i64 0] (0, 0) _ rfl hz Tryz.underlying57 rfl (by kernel_rfl)) rfl ?_
        exact ⟨rfl, hb⟩
    · have hn : isNext s p 0 c = false := decide_eq_false (fun h => by
        have := h.2
        rw [List.drop_eq_nil_of_le (by simp; omega)] at this
        cases this)
      have d1 : decide ((p : Int) < (s.size : Int)) = false := by simp; omega
      have d2 : decide (p < s.size) = false := by simp; omega
      rw [hn, if_neg (by decide)]
      clear hn hx
      go_enter Tryz.func46, Tryz.ntmps46
      go_wp2_with fail
      obtain ⟨hx, hz, hb⟩ := two_boxes w #[.string s, .int .i64 p, .slice A n cc, .int .i64 0] #[.string s, .int .i64 p, .slice A n cc, .int .i64 0] 57
      refine bodyPost_ret (resRowTmp rfl _ _ (w.heap.size + 1) 57 #[.string s, .int .i64 p, .slice A n cc, .int .i64 0] (0, 0) _ rfl hz Tryz.underlying57 rfl (by kernel_rfl)) rfl ?_
      exact ⟨rfl, hb⟩
  · have hn : isNext s p e c = false := decide_eq_false (fun h => h0 h.1)
    have d0 : ((e : Int) == 0) = false := by simp; omega
    rw [hn, if_neg (by decide)]
    clear hn hx
    go_enter Tryz.func46, Tryz.ntmps46
    go_wp2_with fail
    obtain ⟨hx, hz, hb⟩ := two_boxes w #[.string s, .int .i64 p, .slice A n cc, .int .i64 e] #[.string s, .int .i64 p, .slice A n cc, .int .i64 e] 57
    refine bodyPost_ret (resRowTmp rfl _ _ (w.heap.size + 1) 57 #[.string s, .int .i64 p, .slice A n cc, .int .i64 e] (0, 0) _ rfl hz Tryz.underlying57 rfl (by kernel_rfl)) rfl ?_
    exact ⟨rfl, hb⟩
end Go.Proofs.YtfpghfmdkbdojaaGreatDoor
