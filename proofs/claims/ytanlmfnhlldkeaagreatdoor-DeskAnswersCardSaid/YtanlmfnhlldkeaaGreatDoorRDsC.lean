/-
  Contract: quietwingref5.act, where nothing is done.
-/
import Derived.Test.YtanlmfnhlldkeaaGreatDoorRDsB
import Derived.Test.YtanlmfnhlldkeaaGreatDoorROpen
namespace Go.Proofs.YtanlmfnhlldkeaaGreatDoor
open Go.RowKit
set_option maxRecDepth 100000
set_option linter.unusedVariables false

/-- The document's session as a value. -/
structure RDAt (ok : Nat → Prop) (w : World) (v : Value) (D : DS) : Prop where
  is : ∃ a1 a2 c1 c2 b1 b2 b3 b4 b5 k1 d1 k2 d2 k3 d3 k4 d4 k5 d5 ts mn ch, v = .agg #[.slice a1 D.m c1, .slice a2 D.n c2, .slice b1 k1 d1, .slice b2 k2 d2, .slice b3 k3 d3, .slice b4 k4 d4, .slice b5 k5 d5, .string ts, .int .i64 mn, .int .i64 ch, .bool D.T.isSome] ∧ IntsIn ok w a1 D.U ∧ IntsIn ok w a2 D.F ∧ ∀ T, D.T = some T → RT ok w (.agg #[.slice b1 k1 d1, .slice b2 k2 d2, .slice b3 k3 d3, .slice b4 k4 d4, .slice b5 k5 d5, .string ts, .int .i64 mn, .int .i64 ch]) D.U D.F T
theorem RDAt.below {ok : Nat → Prop} {w w' : World} {v : Value} {D : DS} (h : RDAt ok w v D) (hb : Below w.heap.size w w') : RDAt ok w' v D := by
  obtain ⟨a1, a2, c1, c2, b1, b2, b3, b4, b5, k1, d1, k2, d2, k3, d3, k4, d4, k5, d5, ts, mn, ch, e, i1, i2, i3⟩ := h.is
  exact ⟨a1, a2, c1, c2, b1, b2, b3, b4, b5, k1, d1, k2, d2, k3, d3, k4, d4, k5, d5, ts, mn, ch, e, i1.below hb, i2.below hb, fun T hT => (i3 T hT).below hb⟩
def RDPost (ok : Nat → Prop) (W0 : World) (r : DS × List UInt8) (e : Ending) (w' : World) : Prop := (∃ v', e = .returned (.tuple #[v', .string ⟨r.2.toArray⟩]) ∧ RDAt ok w' v' r.1) ∧ Below W0.heap.size W0 w'
theorem results_row_tmpD {P : Program} {fn : Func} {p u : Tmp} {ty : TypeId} (h : fn.results = #[.cell p ty, .tmp u]) (tmps : Array Value) (w : World) (g : Nat) (t : TypeId) (cs : Array Value) (fr : Nat × Nat) (d : TypeDesc)
    (hp : tmps.getD p undef = .pointer (some ⟨g, 0, none⟩)) (hg : w.heap[g]? = some (.cells cs t fr))
    (hu : P.underlying ty = some d) (hd : (match d with | .struct _ | .array _ _ => true | _ => false) = true) (hi : (P.info? ty).map (·.size) = some cs.size) :
    (results fn tmps).run P w = .ok (.tuple #[.agg cs, tmps.getD u undef]) w := by
  rw [results_cell_tmp h, hp]
  simp [asAddr, Result.andThen, run_loadVar_row w g t ty cs fr d hg hu hd hi]
section
variable {ok : Nat → Prop} {W0 w : World} {D : DS} {a1 a2 : Option Addr} {c1 c2 m n : Nat} {b1 b2 b3 b4 b5 : Option Addr} {k1 d1 k2 d2 k3 d3 k4 d4 k5 d5 : Nat} {ts : ByteArray} {mn ch : Int}
/-- The two boxes at the start. -/
theorem act_boxes (hb : Below W0.heap.size W0 w) (vs zs : Array Value) (t : TypeId) : Below W0.heap.size W0 ((w.alloc (.cells vs t)).alloc (.cells zs t)) := (hb.alloc hb.size _).alloc (by have := hb.size; simp; omega) _
set_option maxHeartbeats 4000000 in
theorem actRead_len {up : Bool} (hR : RDAt ok W0 (.agg #[.slice a1 m c1, .slice a2 n c2, .slice b1 k1 d1, .slice b2 k2 d2, .slice b3 k3 d3, .slice b4 k4 d4, .slice b5 k5 d5, .string ts, .int .i64 mn, .int .i64 ch, .bool up]) D) (hbW : Below W0.heap.size W0 w) (s : ByteArray) {A : Option Addr} {nl c : Nat} (hk : nl ≠ 2) :
    Calls Tryz.prog 66 #[.agg #[.slice a1 m c1, .slice a2 n c2, .slice b1 k1 d1, .slice b2 k2 d2, .slice b3 k3 d3, .slice b4 k4 d4, .slice b5 k5 d5, .string ts, .int .i64 mn, .int .i64 ch, .bool up], .string s, .string ⟨#[114, 101, 97, 100]⟩, .slice A nl c] w fun e w' => RDPost ok W0 (D, badL) e w' := by
  have d0 : ((nl : Int) != 2) = true := by simp; omega
  clear hk
  have hbf := act_boxes hbW #[.slice a1 m c1, .slice a2 n c2, .slice b1 k1 d1, .slice b2 k2 d2, .slice b3 k3 d3, .slice b4 k4 d4, .slice b5 k5 d5, .string ts, .int .i64 mn, .int .i64 ch, .bool up] #[.slice a1 m c1, .slice a2 n c2, .slice b1 k1 d1, .slice b2 k2 d2, .slice b3 k3 d3, .slice b4 k4 d4, .slice b5 k5 d5, .string ts, .int .i64 mn, .int .i64 ch, .bool up] 103
  go_enter Tryz.func66, Tryz.ntmps66
  go_wp2_with fail
  refine bodyPost_ret (results_row_tmpD rfl _ _ (w.heap.size + 1) 103 #[.slice a1 m c1, .slice a2 n c2, .slice b1 k1 d1, .slice b2 k2 d2, .slice b3 k3 d3, .slice b4 k4 d4, .slice b5 k5 d5, .string ts, .int .i64 mn, .int .i64 ch, .bool up] (0, 0) _ rfl (BoxN.new' _ _ _ _ (by simp)) Tryz.underlying103 rfl (by kernel_rfl)) rfl ?_
  exact ⟨⟨_, rfl, hR.below hbf⟩, hbf⟩
set_option maxHeartbeats 4000000 in
theorem actRead_state (hR : RDAt ok W0 (.agg #[.slice a1 m c1, .slice a2 n c2, .slice b1 k1 d1, .slice b2 k2 d2, .slice b3 k3 d3, .slice b4 k4 d4, .slice b5 k5 d5, .string ts, .int .i64 mn, .int .i64 ch, .bool false]) D) (hbW : Below W0.heap.size W0 w) (s : ByteArray) {A : Option Addr} {nl c : Nat} (hk : nl = 2) :
    Calls Tryz.prog 66 #[.agg #[.slice a1 m c1, .slice a2 n c2, .slice b1 k1 d1, .slice b2 k2 d2, .slice b3 k3 d3, .slice b4 k4 d4, .slice b5 k5 d5, .string ts, .int .i64 mn, .int .i64 ch, .bool false], .string s, .string ⟨#[114, 101, 97, 100]⟩, .slice A nl c] w fun e w' => RDPost ok W0 (D, stateL) e w' := by
  subst hk
  have hbf := act_boxes hbW #[.slice a1 m c1, .slice a2 n c2, .slice b1 k1 d1, .slice b2 k2 d2, .slice b3 k3 d3, .slice b4 k4 d4, .slice b5 k5 d5, .string ts, .int .i64 mn, .int .i64 ch, .bool false] #[.slice a1 m c1, .slice a2 n c2, .slice b1 k1 d1, .slice b2 k2 d2, .slice b3 k3 d3, .slice b4 k4 d4, .slice b5 k5 d5, .string ts, .int .i64 mn, .int .i64 ch, .bool false] 103
  go_enter Tryz.func66, Tryz.ntmps66
  go_wp2_with fail
  refine bodyPost_ret (results_row_tmpD rfl _ _ (w.heap.size + 1) 103 #[.slice a1 m c1, .slice a2 n c2, .slice b1 k1 d1, .slice b2 k2 d2, .slice b3 k3 d3, .slice b4 k4 d4, .slice b5 k5 d5, .string ts, .int .i64 mn, .int .i64 ch, .bool false] (0, 0) _ rfl (BoxN.new' _ _ _ _ (by simp)) Tryz.underlying103 rfl (by kernel_rfl)) rfl ?_
  exact ⟨⟨_, rfl, hR.below hbf⟩, hbf⟩
set_option maxHeartbeats 4000000 in
theorem actWrite_len {up : Bool} (hR : RDAt ok W0 (.agg #[.slice a1 m c1, .slice a2 n c2, .slice b1 k1 d1, .slice b2 k2 d2, .slice b3 k3 d3, .slice b4 k4 d4, .slice b5 k5 d5, .string ts, .int .i64 mn, .int .i64 ch, .bool up]) D) (hbW : Below W0.heap.size W0 w) (s : ByteArray) {A : Option Addr} {nl c : Nat} (hk : nl ≠ 2) :
    Calls Tryz.prog 66 #[.agg #[.slice a1 m c1, .slice a2 n c2, .slice b1 k1 d1, .slice b2 k2 d2, .slice b3 k3 d3, .slice b4 k4 d4, .slice b5 k5 d5, .string ts, .int .i64 mn, .int .i64 ch, .bool up], .string s, .string ⟨#[119, 114, 105, 116, 101]⟩, .slice A nl c] w fun e w' => RDPost ok W0 (D, badL) e w' := by
  have d0 : ((nl : Int) != 2) = true := by simp; omega
  clear hk
  have hbf := act_boxes hbW #[.slice a1 m c1, .slice a2 n c2, .slice b1 k1 d1, .slice b2 k2 d2, .slice b3 k3 d3, .slice b4 k4 d4, .slice b5 k5 d5, .string ts, .int .i64 mn, .int .i64 ch, .bool up] #[.slice a1 m c1, .slice a2 n c2, .slice b1 k1 d1, .slice b2 k2 d2, .slice b3 k3 d3, .slice b4 k4 d4, .slice b5 k5 d5, .string ts, .int .i64 mn, .int .i64 ch, .bool up] 103
  go_enter Tryz.func66, Tryz.ntmps66
  go_wp2_with fail
  refine bodyPost_ret (results_row_tmpD rfl _ _ (w.heap.size + 1) 103 #[.slice a1 m c1, .slice a2 n c2, .slice b1 k1 d1, .slice b2 k2 d2, .slice b3 k3 d3, .slice b4 k4 d4, .slice b5 k5 d5, .string ts, .int .i64 mn, .int .i64 ch, .bool up] (0, 0) _ rfl (BoxN.new' _ _ _ _ (by simp)) Tryz.underlying103 rfl (by kernel_rfl)) rfl ?_
  exact ⟨⟨_, rfl, hR.below hbf⟩, hbf⟩
set_option maxHeartbeats 4000000 in
theorem actWrite_state (hR : RDAt ok W0 (.agg #[.slice a1 m c1, .slice a2 n c2, .slice b1 k1 d1, .slice b2 k2 d2, .slice b3 k3 d3, .slice b4 k4 d4, .slice b5 k5 d5, .string ts, .int .i64 mn, .int .i64 ch, .bool false]) D) (hbW : Below W0.heap.size W0 w) (s : ByteArray) {A : Option Addr} {nl c : Nat} (hk : nl = 2) :
    Calls Tryz.prog 66 #[.agg #[.slice a1 m c1, .slice a2 n c2, .slice b1 k1 d1, .slice b2 k2 d2, .slice b3 k3 d3, .slice b4 k4 d4, .slice b5 k5 d5, .string ts, .int .i64 mn, .int .i64 ch, .bool false], .string s, .string ⟨#[119, 114, 105, 116, 101]⟩, .slice A nl c] w fun e w' => RDPost ok W0 (D, stateL) e w' := by
  subst hk
  have hbf := act_boxes hbW #[.slice a1 m c1, .slice a2 n c2, .slice b1 k1 d1, .slice b2 k2 d2, .slice b3 k3 d3, .slice b4 k4 d4, .slice b5 k5 d5, .string ts, .int .i64 mn, .int .i64 ch, .bool false] #[.slice a1 m c1, .slice a2 n c2, .slice b1 k1 d1, .slice b2 k2 d2, .slice b3 k3 d3, .slice b4 k4 d4, .slice b5 k5 d5, .string ts, .int .i64 mn, .int .i64 ch, .bool false] 103
  go_enter Tryz.func66, Tryz.ntmps66
  go_wp2_with fail
  refine bodyPost_ret (results_row_tmpD rfl _ _ (w.heap.size + 1) 103 #[.slice a1 m c1, .slice a2 n c2, .slice b1 k1 d1, .slice b2 k2 d2, .slice b3 k3 d3, .slice b4 k4 d4, .slice b5 k5 d5, .string ts, .int .i64 mn, .int .i64 ch, .bool false] (0, 0) _ rfl (BoxN.new' _ _ _ _ (by simp)) Tryz.underlying103 rfl (by kernel_rfl)) rfl ?_
  exact ⟨⟨_, rfl, hR.below hbf⟩, hbf⟩
set_option maxHeartbeats 4000000 in
theorem actDrop_len {up : Bool} (hR : RDAt ok W0 (.agg #[.slice a1 m c1, .slice a2 n c2, .slice b1 k1 d1, .slice b2 k2 d2, .slice b3 k3 d3, .slice b4 k4 d4, .slice b5 k5 d5, .string ts, .int .i64 mn, .int .i64 ch, .bool up]) D) (hbW : Below W0.heap.size W0 w) (s : ByteArray) {A : Option Addr} {nl c : Nat} (hk : nl ≠ 2) :
    Calls Tryz.prog 66 #[.agg #[.slice a1 m c1, .slice a2 n c2, .slice b1 k1 d1, .slice b2 k2 d2, .slice b3 k3 d3, .slice b4 k4 d4, .slice b5 k5 d5, .string ts, .int .i64 mn, .int .i64 ch, .bool up], .string s, .string ⟨#[100, 114, 111, 112]⟩, .slice A nl c] w fun e w' => RDPost ok W0 (D, badL) e w' := by
  have d0 : ((nl : Int) != 2) = true := by simp; omega
  clear hk
  have hbf := act_boxes hbW #[.slice a1 m c1, .slice a2 n c2, .slice b1 k1 d1, .slice b2 k2 d2, .slice b3 k3 d3, .slice b4 k4 d4, .slice b5 k5 d5, .string ts, .int .i64 mn, .int .i64 ch, .bool up] #[.slice a1 m c1, .slice a2 n c2, .slice b1 k1 d1, .slice b2 k2 d2, .slice b3 k3 d3, .slice b4 k4 d4, .slice b5 k5 d5, .string ts, .int .i64 mn, .int .i64 ch, .bool up] 103
  go_enter Tryz.func66, Tryz.ntmps66
  go_wp2_with fail
  refine bodyPost_ret (results_row_tmpD rfl _ _ (w.heap.size + 1) 103 #[.slice a1 m c1, .slice a2 n c2, .slice b1 k1 d1, .slice b2 k2 d2, .slice b3 k3 d3, .slice b4 k4 d4, .slice b5 k5 d5, .string ts, .int .i64 mn, .int .i64 ch, .bool up] (0, 0) _ rfl (BoxN.new' _ _ _ _ (by simp)) Tryz.underlying103 rfl (by kernel_rfl)) rfl ?_
  exact ⟨⟨_, rfl, hR.below hbf⟩, hbf⟩
set_option maxHeartbeats 4000000 in
theorem actDrop_state (hR : RDAt ok W0 (.agg #[.slice a1 m c1, .slice a2 n c2, .slice b1 k1 d1, .slice b2 k2 d2, .slice b3 k3 d3, .slice b4 k4 d4, .slice b5 k5 d5, .string ts, .int .i64 mn, .int .i64 ch, .bool false]) D) (hbW : Below W0.heap.size W0 w) (s : ByteArray) {A : Option Addr} {nl c : Nat} (hk : nl = 2) :
    Calls Tryz.prog 66 #[.agg #[.slice a1 m c1, .slice a2 n c2, .slice b1 k1 d1, .slice b2 k2 d2, .slice b3 k3 d3, .slice b4 k4 d4, .slice b5 k5 d5, .string ts, .int .i64 mn, .int .i64 ch, .bool false], .string s, .string ⟨#[100, 114, 111, 112]⟩, .slice A nl c] w fun e w' => RDPost ok W0 (D, stateL) e w' := by
  subst hk
  have hbf := act_boxes hbW #[.slice a1 m c1, .slice a2 n c2, .slice b1 k1 d1, .slice b2 k2 d2, .slice b3 k3 d3, .slice b4 k4 d4, .slice b5 k5 d5, .string ts, .int .i64 mn, .int .i64 ch, .bool false] #[.slice a1 m c1, .slice a2 n c2, .slice b1 k1 d1, .slice b2 k2 d2, .slice b3 k3 d3, .slice b4 k4 d4, .slice b5 k5 d5, .string ts, .int .i64 mn, .int .i64 ch, .bool false] 103
  go_enter Tryz.func66, Tryz.ntmps66
  go_wp2_with fail
  refine bodyPost_ret (results_row_tmpD rfl _ _ (w.heap.size + 1) 103 #[.slice a1 m c1, .slice a2 n c2, .slice b1 k1 d1, .slice b2 k2 d2, .slice b3 k3 d3, .slice b4 k4 d4, .slice b5 k5 d5, .string ts, .int .i64 mn, .int .i64 ch, .bool false] (0, 0) _ rfl (BoxN.new' _ _ _ _ (by simp)) Tryz.underlying103 rfl (by kernel_rfl)) rfl ?_
  exact ⟨⟨_, rfl, hR.below hbf⟩, hbf⟩
set_option maxHeartbeats 4000000 in
theorem actCopy_len {up : Bool} (hR : RDAt ok W0 (.agg #[.slice a1 m c1, .slice a2 n c2, .slice b1 k1 d1, .slice b2 k2 d2, .slice b3 k3 d3, .slice b4 k4 d4, .slice b5 k5 d5, .string ts, .int .i64 mn, .int .i64 ch, .bool up]) D) (hbW : Below W0.heap.size W0 w) (s : ByteArray) {A : Option Addr} {nl c : Nat} (hk : nl ≠ 3) :
    Calls Tryz.prog 66 #[.agg #[.slice a1 m c1, .slice a2 n c2, .slice b1 k1 d1, .slice b2 k2 d2, .slice b3 k3 d3, .slice b4 k4 d4, .slice b5 k5 d5, .string ts, .int .i64 mn, .int .i64 ch, .bool up], .string s, .string ⟨#[99, 111, 112, 121]⟩, .slice A nl c] w fun e w' => RDPost ok W0 (D, badL) e w' := by
  have d0 : ((nl : Int) != 3) = true := by simp; omega
  clear hk
  have hbf := act_boxes hbW #[.slice a1 m c1, .slice a2 n c2, .slice b1 k1 d1, .slice b2 k2 d2, .slice b3 k3 d3, .slice b4 k4 d4, .slice b5 k5 d5, .string ts, .int .i64 mn, .int .i64 ch, .bool up] #[.slice a1 m c1, .slice a2 n c2, .slice b1 k1 d1, .slice b2 k2 d2, .slice b3 k3 d3, .slice b4 k4 d4, .slice b5 k5 d5, .string ts, .int .i64 mn, .int .i64 ch, .bool up] 103
  go_enter Tryz.func66, Tryz.ntmps66
  go_wp2_with fail
  refine bodyPost_ret (results_row_tmpD rfl _ _ (w.heap.size + 1) 103 #[.slice a1 m c1, .slice a2 n c2, .slice b1 k1 d1, .slice b2 k2 d2, .slice b3 k3 d3, .slice b4 k4 d4, .slice b5 k5 d5, .string ts, .int .i64 mn, .int .i64 ch, .bool up] (0, 0) _ rfl (BoxN.new' _ _ _ _ (by simp)) Tryz.underlying103 rfl (by kernel_rfl)) rfl ?_
  exact ⟨⟨_, rfl, hR.below hbf⟩, hbf⟩
set_option maxHeartbeats 4000000 in
theorem actCopy_state (hR : RDAt ok W0 (.agg #[.slice a1 m c1, .slice a2 n c2, .slice b1 k1 d1, .slice b2 k2 d2, .slice b3 k3 d3, .slice b4 k4 d4, .slice b5 k5 d5, .string ts, .int .i64 mn, .int .i64 ch, .bool false]) D) (hbW : Below W0.heap.size W0 w) (s : ByteArray) {A : Option Addr} {nl c : Nat} (hk : nl = 3) :
    Calls Tryz.prog 66 #[.agg #[.slice a1 m c1, .slice a2 n c2, .slice b1 k1 d1, .slice b2 k2 d2, .slice b3 k3 d3, .slice b4 k4 d4, .slice b5 k5 d5, .string ts, .int .i64 mn, .int .i64 ch, .bool false], .string s, .string ⟨#[99, 111, 112, 121]⟩, .slice A nl c] w fun e w' => RDPost ok W0 (D, stateL) e w' := by
  subst hk
  have hbf := act_boxes hbW #[.slice a1 m c1, .slice a2 n c2, .slice b1 k1 d1, .slice b2 k2 d2, .slice b3 k3 d3, .slice b4 k4 d4, .slice b5 k5 d5, .string ts, .int .i64 mn, .int .i64 ch, .bool false] #[.slice a1 m c1, .slice a2 n c2, .slice b1 k1 d1, .slice b2 k2 d2, .slice b3 k3 d3, .slice b4 k4 d4, .slice b5 k5 d5, .string ts, .int .i64 mn, .int .i64 ch, .bool false] 103
  go_enter Tryz.func66, Tryz.ntmps66
  go_wp2_with fail
  refine bodyPost_ret (results_row_tmpD rfl _ _ (w.heap.size + 1) 103 #[.slice a1 m c1, .slice a2 n c2, .slice b1 k1 d1, .slice b2 k2 d2, .slice b3 k3 d3, .slice b4 k4 d4, .slice b5 k5 d5, .string ts, .int .i64 mn, .int .i64 ch, .bool false] (0, 0) _ rfl (BoxN.new' _ _ _ _ (by simp)) Tryz.underlying103 rfl (by kernel_rfl)) rfl ?_
  exact ⟨⟨_, rfl, hR.below hbf⟩, hbf⟩
set_option maxHeartbeats 4000000 in
theorem actReads_len {up : Bool} (hR : RDAt ok W0 (.agg #[.slice a1 m c1, .slice a2 n c2, .slice b1 k1 d1, .slice b2 k2 d2, .slice b3 k3 d3, .slice b4 k4 d4, .slice b5 k5 d5, .string ts, .int .i64 mn, .int .i64 ch, .bool up]) D) (hbW : Below W0.heap.size W0 w) (s : ByteArray) {A : Option Addr} {nl c : Nat} (hk : nl ≠ 1) :
    Calls Tryz.prog 66 #[.agg #[.slice a1 m c1, .slice a2 n c2, .slice b1 k1 d1, .slice b2 k2 d2, .slice b3 k3 d3, .slice b4 k4 d4, .slice b5 k5 d5, .string ts, .int .i64 mn, .int .i64 ch, .bool up], .string s, .string ⟨#[114, 101, 97, 100, 115]⟩, .slice A nl c] w fun e w' => RDPost ok W0 (D, badL) e w' := by
  have d0 : ((nl : Int) != 1) = true := by simp; omega
  clear hk
  have hbf := act_boxes hbW #[.slice a1 m c1, .slice a2 n c2, .slice b1 k1 d1, .slice b2 k2 d2, .slice b3 k3 d3, .slice b4 k4 d4, .slice b5 k5 d5, .string ts, .int .i64 mn, .int .i64 ch, .bool up] #[.slice a1 m c1, .slice a2 n c2, .slice b1 k1 d1, .slice b2 k2 d2, .slice b3 k3 d3, .slice b4 k4 d4, .slice b5 k5 d5, .string ts, .int .i64 mn, .int .i64 ch, .bool up] 103
  go_enter Tryz.func66, Tryz.ntmps66
  go_wp2_with fail
  refine bodyPost_ret (results_row_tmpD rfl _ _ (w.heap.size + 1) 103 #[.slice a1 m c1, .slice a2 n c2, .slice b1 k1 d1, .slice b2 k2 d2, .slice b3 k3 d3, .slice b4 k4 d4, .slice b5 k5 d5, .string ts, .int .i64 mn, .int .i64 ch, .bool up] (0, 0) _ rfl (BoxN.new' _ _ _ _ (by simp)) Tryz.underlying103 rfl (by kernel_rfl)) rfl ?_
  exact ⟨⟨_, rfl, hR.below hbf⟩, hbf⟩
set_option maxHeartbeats 4000000 in
theorem actReads_state (hR : RDAt ok W0 (.agg #[.slice a1 m c1, .slice a2 n c2, .slice b1 k1 d1, .slice b2 k2 d2, .slice b3 k3 d3, .slice b4 k4 d4, .slice b5 k5 d5, .string ts, .int .i64 mn, .int .i64 ch, .bool false]) D) (hbW : Below W0.heap.size W0 w) (s : ByteArray) {A : Option Addr} {nl c : Nat} (hk : nl = 1) :
    Calls Tryz.prog 66 #[.agg #[.slice a1 m c1, .slice a2 n c2, .slice b1 k1 d1, .slice b2 k2 d2, .slice b3 k3 d3, .slice b4 k4 d4, .slice b5 k5 d5, .string ts, .int .i64 mn, .int .i64 ch, .bool false], .string s, .string ⟨#[114, 101, 97, 100, 115]⟩, .slice A nl c] w fun e w' => RDPost ok W0 (D, stateL) e w' := by
  subst hk
  have hbf := act_boxes hbW #[.slice a1 m c1, .slice a2 n c2, .slice b1 k1 d1, .slice b2 k2 d2, .slice b3 k3 d3, .slice b4 k4 d4, .slice b5 k5 d5, .string ts, .int .i64 mn, .int .i64 ch, .bool false] #[.slice a1 m c1, .slice a2 n c2, .slice b1 k1 d1, .slice b2 k2 d2, .slice b3 k3 d3, .slice b4 k4 d4, .slice b5 k5 d5, .string ts, .int .i64 mn, .int .i64 ch, .bool false] 103
  go_enter Tryz.func66, Tryz.ntmps66
  go_wp2_with fail
  refine bodyPost_ret (results_row_tmpD rfl _ _ (w.heap.size + 1) 103 #[.slice a1 m c1, .slice a2 n c2, .slice b1 k1 d1, .slice b2 k2 d2, .slice b3 k3 d3, .slice b4 k4 d4, .slice b5 k5 d5, .string ts, .int .i64 mn, .int .i64 ch, .bool false] (0, 0) _ rfl (BoxN.new' _ _ _ _ (by simp)) Tryz.underlying103 rfl (by kernel_rfl)) rfl ?_
  exact ⟨⟨_, rfl, hR.below hbf⟩, hbf⟩
set_option maxHeartbeats 4000000 in
theorem actWrites_len {up : Bool} (hR : RDAt ok W0 (.agg #[.slice a1 m c1, .slice a2 n c2, .slice b1 k1 d1, .slice b2 k2 d2, .slice b3 k3 d3, .slice b4 k4 d4, .slice b5 k5 d5, .string ts, .int .i64 mn, .int .i64 ch, .bool up]) D) (hbW : Below W0.heap.size W0 w) (s : ByteArray) {A : Option Addr} {nl c : Nat} (hk : nl ≠ 1) :
    Calls Tryz.prog 66 #[.agg #[.slice a1 m c1, .slice a2 n c2, .slice b1 k1 d1, .slice b2 k2 d2, .slice b3 k3 d3, .slice b4 k4 d4, .slice b5 k5 d5, .string ts, .int .i64 mn, .int .i64 ch, .bool up], .string s, .string ⟨#[119, 114, 105, 116, 101, 115]⟩, .slice A nl c] w fun e w' => RDPost ok W0 (D, badL) e w' := by
  have d0 : ((nl : Int) != 1) = true := by simp; omega
  clear hk
  have hbf := act_boxes hbW #[.slice a1 m c1, .slice a2 n c2, .slice b1 k1 d1, .slice b2 k2 d2, .slice b3 k3 d3, .slice b4 k4 d4, .slice b5 k5 d5, .string ts, .int .i64 mn, .int .i64 ch, .bool up] #[.slice a1 m c1, .slice a2 n c2, .slice b1 k1 d1, .slice b2 k2 d2, .slice b3 k3 d3, .slice b4 k4 d4, .slice b5 k5 d5, .string ts, .int .i64 mn, .int .i64 ch, .bool up] 103
  go_enter Tryz.func66, Tryz.ntmps66
  go_wp2_with fail
  refine bodyPost_ret (results_row_tmpD rfl _ _ (w.heap.size + 1) 103 #[.slice a1 m c1, .slice a2 n c2, .slice b1 k1 d1, .slice b2 k2 d2, .slice b3 k3 d3, .slice b4 k4 d4, .slice b5 k5 d5, .string ts, .int .i64 mn, .int .i64 ch, .bool up] (0, 0) _ rfl (BoxN.new' _ _ _ _ (by simp)) Tryz.underlying103 rfl (by kernel_rfl)) rfl ?_
  exact ⟨⟨_, rfl, hR.below hbf⟩, hbf⟩
set_option maxHeartbeats 4000000 in
theorem actWrites_state (hR : RDAt ok W0 (.agg #[.slice a1 m c1, .slice a2 n c2, .slice b1 k1 d1, .slice b2 k2 d2, .slice b3 k3 d3, .slice b4 k4 d4, .slice b5 k5 d5, .string ts, .int .i64 mn, .int .i64 ch, .bool false]) D) (hbW : Below W0.heap.size W0 w) (s : ByteArray) {A : Option Addr} {nl c : Nat} (hk : nl = 1) :
    Calls Tryz.prog 66 #[.agg #[.slice a1 m c1, .slice a2 n c2, .slice b1 k1 d1, .slice b2 k2 d2, .slice b3 k3 d3, .slice b4 k4 d4, .slice b5 k5 d5, .string ts, .int .i64 mn, .int .i64 ch, .bool false], .string s, .string ⟨#[119, 114, 105, 116, 101, 115]⟩, .slice A nl c] w fun e w' => RDPost ok W0 (D, stateL) e w' := by
  subst hk
  have hbf := act_boxes hbW #[.slice a1 m c1, .slice a2 n c2, .slice b1 k1 d1, .slice b2 k2 d2, .slice b3 k3 d3, .slice b4 k4 d4, .slice b5 k5 d5, .string ts, .int .i64 mn, .int .i64 ch, .bool false] #[.slice a1 m c1, .slice a2 n c2, .slice b1 k1 d1, .slice b2 k2 d2, .slice b3 k3 d3, .slice b4 k4 d4, .slice b5 k5 d5, .string ts, .int .i64 mn, .int .i64 ch, .bool false] 103
  go_enter Tryz.func66, Tryz.ntmps66
  go_wp2_with fail
  refine bodyPost_ret (results_row_tmpD rfl _ _ (w.heap.size + 1) 103 #[.slice a1 m c1, .slice a2 n c2, .slice b1 k1 d1, .slice b2 k2 d2, .slice b3 k3 d3, .slice b4 k4 d4, .slice b5 k5 d5, .string ts, .int .i64 mn, .int .i64 ch, .bool false] (0, 0) _ rfl (BoxN.new' _ _ _ _ (by simp)) Tryz.underlying103 rfl (by kernel_rfl)) rfl ?_
  exact ⟨⟨_, rfl, hR.below hbf⟩, hbf⟩
set_option maxHeartbeats 4000000 in
theorem actHolds_len {up : Bool} (hR : RDAt ok W0 (.agg #[.slice a1 m c1, .slice a2 n c2, .slice b1 k1 d1, .slice b2 k2 d2, .slice b3 k3 d3, .slice b4 k4 d4, .slice b5 k5 d5, .string ts, .int .i64 mn, .int .i64 ch, .bool up]) D) (hbW : Below W0.heap.size W0 w) (s : ByteArray) {A : Option Addr} {nl c : Nat} (hk : nl ≠ 1) :
    Calls Tryz.prog 66 #[.agg #[.slice a1 m c1, .slice a2 n c2, .slice b1 k1 d1, .slice b2 k2 d2, .slice b3 k3 d3, .slice b4 k4 d4, .slice b5 k5 d5, .string ts, .int .i64 mn, .int .i64 ch, .bool up], .string s, .string ⟨#[104, 111, 108, 100, 115]⟩, .slice A nl c] w fun e w' => RDPost ok W0 (D, badL) e w' := by
  have d0 : ((nl : Int) != 1) = true := by simp; omega
  clear hk
  have hbf := act_boxes hbW #[.slice a1 m c1, .slice a2 n c2, .slice b1 k1 d1, .slice b2 k2 d2, .slice b3 k3 d3, .slice b4 k4 d4, .slice b5 k5 d5, .string ts, .int .i64 mn, .int .i64 ch, .bool up] #[.slice a1 m c1, .slice a2 n c2, .slice b1 k1 d1, .slice b2 k2 d2, .slice b3 k3 d3, .slice b4 k4 d4, .slice b5 k5 d5, .string ts, .int .i64 mn, .int .i64 ch, .bool up] 103
  go_enter Tryz.func66, Tryz.ntmps66
  go_wp2_with fail
  refine bodyPost_ret (results_row_tmpD rfl _ _ (w.heap.size + 1) 103 #[.slice a1 m c1, .slice a2 n c2, .slice b1 k1 d1, .slice b2 k2 d2, .slice b3 k3 d3, .slice b4 k4 d4, .slice b5 k5 d5, .string ts, .int .i64 mn, .int .i64 ch, .bool up] (0, 0) _ rfl (BoxN.new' _ _ _ _ (by simp)) Tryz.underlying103 rfl (by kernel_rfl)) rfl ?_
  exact ⟨⟨_, rfl, hR.below hbf⟩, hbf⟩
set_option maxHeartbeats 4000000 in
theorem actHolds_state (hR : RDAt ok W0 (.agg #[.slice a1 m c1, .slice a2 n c2, .slice b1 k1 d1, .slice b2 k2 d2, .slice b3 k3 d3, .slice b4 k4 d4, .slice b5 k5 d5, .string ts, .int .i64 mn, .int .i64 ch, .bool false]) D) (hbW : Below W0.heap.size W0 w) (s : ByteArray) {A : Option Addr} {nl c : Nat} (hk : nl = 1) :
    Calls Tryz.prog 66 #[.agg #[.slice a1 m c1, .slice a2 n c2, .slice b1 k1 d1, .slice b2 k2 d2, .slice b3 k3 d3, .slice b4 k4 d4, .slice b5 k5 d5, .string ts, .int .i64 mn, .int .i64 ch, .bool false], .string s, .string ⟨#[104, 111, 108, 100, 115]⟩, .slice A nl c] w fun e w' => RDPost ok W0 (D, stateL) e w' := by
  subst hk
  have hbf := act_boxes hbW #[.slice a1 m c1, .slice a2 n c2, .slice b1 k1 d1, .slice b2 k2 d2, .slice b3 k3 d3, .slice b4 k4 d4, .slice b5 k5 d5, .string ts, .int .i64 mn, .int .i64 ch, .bool false] #[.slice a1 m c1, .slice a2 n c2, .slice b1 k1 d1, .slice b2 k2 d2, .slice b3 k3 d3, .slice b4 k4 d4, .slice b5 k5 d5, .string ts, .int .i64 mn, .int .i64 ch, .bool false] 103
  go_enter Tryz.func66, Tryz.ntmps66
  go_wp2_with fail
  refine bodyPost_ret (results_row_tmpD rfl _ _ (w.heap.size + 1) 103 #[.slice a1 m c1, .slice a2 n c2, .slice b1 k1 d1, .slice b2 k2 d2, .slice b3 k3 d3, .slice b4 k4 d4, .slice b5 k5 d5, .string ts, .int .i64 mn, .int .i64 ch, .bool false] (0, 0) _ rfl (BoxN.new' _ _ _ _ (by simp)) Tryz.underlying103 rfl (by kernel_rfl)) rfl ?_
  exact ⟨⟨_, rfl, hR.below hbf⟩, hbf⟩
set_option maxHeartbeats 4000000 in
theorem actCrash_len {up : Bool} (hR : RDAt ok W0 (.agg #[.slice a1 m c1, .slice a2 n c2, .slice b1 k1 d1, .slice b2 k2 d2, .slice b3 k3 d3, .slice b4 k4 d4, .slice b5 k5 d5, .string ts, .int .i64 mn, .int .i64 ch, .bool up]) D) (hbW : Below W0.heap.size W0 w) (s : ByteArray) {A : Option Addr} {nl c : Nat} (hk : nl ≠ 1) :
    Calls Tryz.prog 66 #[.agg #[.slice a1 m c1, .slice a2 n c2, .slice b1 k1 d1, .slice b2 k2 d2, .slice b3 k3 d3, .slice b4 k4 d4, .slice b5 k5 d5, .string ts, .int .i64 mn, .int .i64 ch, .bool up], .string s, .string ⟨#[99, 114, 97, 115, 104]⟩, .slice A nl c] w fun e w' => RDPost ok W0 (D, badL) e w' := by
  have d0 : ((nl : Int) != 1) = true := by simp; omega
  clear hk
  have hbf := act_boxes hbW #[.slice a1 m c1, .slice a2 n c2, .slice b1 k1 d1, .slice b2 k2 d2, .slice b3 k3 d3, .slice b4 k4 d4, .slice b5 k5 d5, .string ts, .int .i64 mn, .int .i64 ch, .bool up] #[.slice a1 m c1, .slice a2 n c2, .slice b1 k1 d1, .slice b2 k2 d2, .slice b3 k3 d3, .slice b4 k4 d4, .slice b5 k5 d5, .string ts, .int .i64 mn, .int .i64 ch, .bool up] 103
  go_enter Tryz.func66, Tryz.ntmps66
  go_wp2_with fail
  refine bodyPost_ret (results_row_tmpD rfl _ _ (w.heap.size + 1) 103 #[.slice a1 m c1, .slice a2 n c2, .slice b1 k1 d1, .slice b2 k2 d2, .slice b3 k3 d3, .slice b4 k4 d4, .slice b5 k5 d5, .string ts, .int .i64 mn, .int .i64 ch, .bool up] (0, 0) _ rfl (BoxN.new' _ _ _ _ (by simp)) Tryz.underlying103 rfl (by kernel_rfl)) rfl ?_
  exact ⟨⟨_, rfl, hR.below hbf⟩, hbf⟩
set_option maxHeartbeats 4000000 in
theorem actCrash_state (hR : RDAt ok W0 (.agg #[.slice a1 m c1, .slice a2 n c2, .slice b1 k1 d1, .slice b2 k2 d2, .slice b3 k3 d3, .slice b4 k4 d4, .slice b5 k5 d5, .string ts, .int .i64 mn, .int .i64 ch, .bool false]) D) (hbW : Below W0.heap.size W0 w) (s : ByteArray) {A : Option Addr} {nl c : Nat} (hk : nl = 1) :
    Calls Tryz.prog 66 #[.agg #[.slice a1 m c1, .slice a2 n c2, .slice b1 k1 d1, .slice b2 k2 d2, .slice b3 k3 d3, .slice b4 k4 d4, .slice b5 k5 d5, .string ts, .int .i64 mn, .int .i64 ch, .bool false], .string s, .string ⟨#[99, 114, 97, 115, 104]⟩, .slice A nl c] w fun e w' => RDPost ok W0 (D, stateL) e w' := by
  subst hk
  have hbf := act_boxes hbW #[.slice a1 m c1, .slice a2 n c2, .slice b1 k1 d1, .slice b2 k2 d2, .slice b3 k3 d3, .slice b4 k4 d4, .slice b5 k5 d5, .string ts, .int .i64 mn, .int .i64 ch, .bool false] #[.slice a1 m c1, .slice a2 n c2, .slice b1 k1 d1, .slice b2 k2 d2, .slice b3 k3 d3, .slice b4 k4 d4, .slice b5 k5 d5, .string ts, .int .i64 mn, .int .i64 ch, .bool false] 103
  go_enter Tryz.func66, Tryz.ntmps66
  go_wp2_with fail
  refine bodyPost_ret (results_row_tmpD rfl _ _ (w.heap.size + 1) 103 #[.slice a1 m c1, .slice a2 n c2, .slice b1 k1 d1, .slice b2 k2 d2, .slice b3 k3 d3, .slice b4 k4 d4, .slice b5 k5 d5, .string ts, .int .i64 mn, .int .i64 ch, .bool false] (0, 0) _ rfl (BoxN.new' _ _ _ _ (by simp)) Tryz.underlying103 rfl (by kernel_rfl)) rfl ?_
  exact ⟨⟨_, rfl, hR.below hbf⟩, hbf⟩
set_option maxHeartbeats 4000000 in
theorem act_none {up : Bool} (hR : RDAt ok W0 (.agg #[.slice a1 m c1, .slice a2 n c2, .slice b1 k1 d1, .slice b2 k2 d2, .slice b3 k3 d3, .slice b4 k4 d4, .slice b5 k5 d5, .string ts, .int .i64 mn, .int .i64 ch, .bool up]) D) (hbW : Below W0.heap.size W0 w) (s : ByteArray) (v : ByteArray) {A : Option Addr} {nl c : Nat} (hv : ∀ l ∈ [[114, 101, 97, 100], [119, 114, 105, 116, 101], [100, 114, 111, 112], [99, 111, 112, 121], [114, 101, 97, 100, 115], [119, 114, 105, 116, 101, 115], [104, 111, 108, 100, 115], [99, 114, 97, 115, 104]], v.toList ≠ l) :
    Calls Tryz.prog 66 #[.agg #[.slice a1 m c1, .slice a2 n c2, .slice b1 k1 d1, .slice b2 k2 d2, .slice b3 k3 d3, .slice b4 k4 d4, .slice b5 k5 d5, .string ts, .int .i64 mn, .int .i64 ch, .bool up], .string s, .string v, .slice A nl c] w fun e w' => RDPost ok W0 (D, badL) e w' := by
  have e0 : ¬ v.toList = [114, 101, 97, 100] := fun e => hv _ (by decide) e
  have g0 : (v.toList == [114, 101, 97, 100]) = false := beq_eq_false_iff_ne.2 e0
  have e1 : ¬ v.toList = [119, 114, 105, 116, 101] := fun e => hv _ (by decide) e
  have g1 : (v.toList == [119, 114, 105, 116, 101]) = false := beq_eq_false_iff_ne.2 e1
  have e2 : ¬ v.toList = [100, 114, 111, 112] := fun e => hv _ (by decide) e
  have g2 : (v.toList == [100, 114, 111, 112]) = false := beq_eq_false_iff_ne.2 e2
  have e3 : ¬ v.toList = [99, 111, 112, 121] := fun e => hv _ (by decide) e
  have g3 : (v.toList == [99, 111, 112, 121]) = false := beq_eq_false_iff_ne.2 e3
  have e4 : ¬ v.toList = [114, 101, 97, 100, 115] := fun e => hv _ (by decide) e
  have g4 : (v.toList == [114, 101, 97, 100, 115]) = false := beq_eq_false_iff_ne.2 e4
  have e5 : ¬ v.toList = [119, 114, 105, 116, 101, 115] := fun e => hv _ (by decide) e
  have g5 : (v.toList == [119, 114, 105, 116, 101, 115]) = false := beq_eq_false_iff_ne.2 e5
  have e6 : ¬ v.toList = [104, 111, 108, 100, 115] := fun e => hv _ (by decide) e
  have g6 : (v.toList == [104, 111, 108, 100, 115]) = false := beq_eq_false_iff_ne.2 e6
  have e7 : ¬ v.toList = [99, 114, 97, 115, 104] := fun e => hv _ (by decide) e
  have g7 : (v.toList == [99, 114, 97, 115, 104]) = false := beq_eq_false_iff_ne.2 e7
  clear hv
  have hbf := act_boxes hbW #[.slice a1 m c1, .slice a2 n c2, .slice b1 k1 d1, .slice b2 k2 d2, .slice b3 k3 d3, .slice b4 k4 d4, .slice b5 k5 d5, .string ts, .int .i64 mn, .int .i64 ch, .bool up] #[.slice a1 m c1, .slice a2 n c2, .slice b1 k1 d1, .slice b2 k2 d2, .slice b3 k3 d3, .slice b4 k4 d4, .slice b5 k5 d5, .string ts, .int .i64 mn, .int .i64 ch, .bool up] 103
  go_enter Tryz.func66, Tryz.ntmps66
  go_wp2_with fail
  refine bodyPost_ret (results_row_tmpD rfl _ _ (w.heap.size + 1) 103 #[.slice a1 m c1, .slice a2 n c2, .slice b1 k1 d1, .slice b2 k2 d2, .slice b3 k3 d3, .slice b4 k4 d4, .slice b5 k5 d5, .string ts, .int .i64 mn, .int .i64 ch, .bool up] (0, 0) _ rfl (BoxN.new' _ _ _ _ (by simp)) Tryz.underlying103 rfl (by kernel_rfl)) rfl ?_
  exact ⟨⟨_, rfl, hR.below hbf⟩, hbf⟩
end
end Go.Proofs.YtanlmfnhlldkeaaGreatDoor
