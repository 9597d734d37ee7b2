/-
  Contracts: errors.As at a target *api.Errno, plain.Told, quietwingsame.Error. (errors.As after the guide's worked text ToyasAs.)
  Contract: errors.Is of an error of api (or none) and api.ErrRange. (errors.Is after the guide's worked text SentryIs.)
  Contracts: trail.next, trail.told.
-/
import Derived.Test.YtanlmfnhlldkeaaGreatDoorBaseA
import Derived.LaidEql
import Derived.Stop.Asserts
import Derived.RowKitTokens
import Derived.Lib.ConvBytes
import Derived.Lib.UnsafeStr
namespace Go.Proofs.YtanlmfnhlldkeaaGreatDoor
open Go.RowKit Go.Extern.Stop Go.Stop Go.Extern

/-- The variable errors.errorType holds the handle of the type error. -/
def ErrT (w : World) : Prop := w.cell? ⟨0, 0, none⟩ = some (.iface 176 (.agg #[.pointer (some ⟨9, 35, none⟩)]))
theorem ErrT.lt {w : World} (h : ErrT w) : 0 < w.heap.size := block_lt h
theorem ErrT.next {w w' : World} (h : ErrT w) (hb : Below w.heap.size w w') : ErrT w' := (hb.cell (p := ⟨0, 0, none⟩) h.lt).trans h
theorem as_nil (t : Value) (w : World) :
    Calls Tryz.prog 53 #[.nilIface, t] w fun e w' => e = .returned (.bool false) ∧ w = w' := by
  go_enter Tryz.func53, Tryz.ntmps53
  go_wp2
  go_ret
  exact ⟨rfl, rfl⟩
theorem AsK.valueOfP (t : Addr) (w : World) : (ReflectliteValue.unpack (.iface 109 (.pointer (some t)))).run Tryz.prog w
    = .ok (.agg #[.pointer (some ⟨9, 109, none⟩), .pointer (some ⟨w.heap.size, 0, none⟩), .int .u64 150]) (w.alloc (.cells #[.pointer (some t)] 109)) := by kernel_rfl
theorem AsK.typeP (a : Addr) (w : World) : (ReflectliteValue.methodAny (ReflectliteValue.valueError "reflectlite.Value.Type" 0) (fun t _ _ _ => ReflectliteType.toType t) #[.agg #[.pointer (some ⟨9, 109, none⟩), .pointer (some a), .int .u64 150]]).run Tryz.prog w
    = .ok (.iface 176 (.agg #[.pointer (some ⟨9, 109, none⟩)])) w := by kernel_rfl
theorem AsK.methodKind (h : Value) (w : World) : (Go.method 385 176 (.agg #[h]) "Kind").run Tryz.prog w = .ok (191, h) w := by kernel_rfl
theorem AsK.kindP (w : World) : ((ReflectliteType.abiMethod fun t => (fun a : Nat => Value.int IntKind.u8 (a : Int)) <$> Rtype.kind t) #[.pointer (some ⟨9, 109, none⟩)]).run Tryz.prog w = .ok (.int .u8 22) w := by kernel_rfl
theorem AsK.kindE (w : World) : ((ReflectliteType.abiMethod fun t => (fun a : Nat => Value.int IntKind.u8 (a : Int)) <$> Rtype.kind t) #[.pointer (some ⟨9, 63, none⟩)]).run Tryz.prog w = .ok (.int .u8 2) w := by kernel_rfl
theorem AsK.rlm (z : Sem Value) (f : TypeId → Addr → Nat → Nat → Sem Value) (v : Value) :
    ReflectliteValue.method z f #[v] = (do match ← ReflectliteValue.parts v with | none => z | some (t, a, fl) => f t a fl (fl % 32)) := rfl
theorem AsK.partsP (a : Addr) (w : World) : (ReflectliteValue.parts (.agg #[.pointer (some ⟨9, 109, none⟩), .pointer (some a), .int .u64 150])).run Tryz.prog w = .ok (some (109, a, 150)) w := by kernel_rfl
theorem AsK.isNilP (a p : Addr) (W : World) (ha : W.cell? a = some (.pointer (some p))) :
    (ReflectliteValue.method (ReflectliteValue.valueError "reflectlite.Value.IsNil" 0) ReflectliteValue.isNil #[.agg #[.pointer (some ⟨9, 109, none⟩), .pointer (some a), .int .u64 150]]).run Tryz.prog W = .ok (.bool false) W := by
  rw [AsK.rlm]
  simp only [Sem.run_bind, AsK.partsP, Result.andThen]
  simp [ReflectliteValue.isNil, loadVar, isAgg, underlying, Tryz.underlying109, ha, Result.andThen]
theorem AsK.methodElem (h : Value) (w : World) : (Go.method 385 176 (.agg #[h]) "Elem").run Tryz.prog w = .ok (204, .agg #[h]) w := by kernel_rfl
theorem AsK.methodImplements (h : Value) (w : World) : (Go.method 385 176 (.agg #[h]) "Implements").run Tryz.prog w = .ok (205, .agg #[h]) w := by kernel_rfl
theorem AsK.methodAssignableTo (h : Value) (w : World) : (Go.method 385 176 (.agg #[h]) "AssignableTo").run Tryz.prog w = .ok (202, .agg #[h]) w := by kernel_rfl
theorem AsK.elemP (w : World) : (ReflectliteType.method ReflectliteType.elem #[.agg #[.pointer (some ⟨9, 109, none⟩)]]).run Tryz.prog w = .ok (.iface 176 (.agg #[.pointer (some ⟨9, 63, none⟩)])) w := by kernel_rfl
theorem AsK.implementsE (w : World) : (ReflectliteType.relation "Implements" ReflectliteType.implements_ #[.agg #[.pointer (some ⟨9, 63, none⟩)], .iface 176 (.agg #[.pointer (some ⟨9, 35, none⟩)])]).run Tryz.prog w = .ok (.bool true) w := by kernel_rfl
theorem AsK.typeOfE (v : Value) (w : World) : (ReflectliteType.typeOf #[.iface 63 v]).run Tryz.prog w = .ok (.iface 176 (.agg #[.pointer (some ⟨9, 63, none⟩)])) w := by kernel_rfl
theorem AsK.assignableE (w : World) : (ReflectliteType.relation "AssignableTo" ReflectliteType.assignableTo #[.agg #[.pointer (some ⟨9, 63, none⟩)], .iface 176 (.agg #[.pointer (some ⟨9, 63, none⟩)])]).run Tryz.prog w = .ok (.bool true) w := by kernel_rfl
theorem AsK.valueOfE (e : Int) (w : World) : (ReflectliteValue.unpack (.iface 63 (.int .i64 e))).run Tryz.prog w
    = .ok (.agg #[.pointer (some ⟨9, 63, none⟩), .pointer (some ⟨w.heap.size, 0, none⟩), .int .u64 130]) (w.alloc (.cells #[.int .i64 e] 63)) := by kernel_rfl
theorem AsK.elemOfP (w : World) : (Rtype.elem? 109).run Tryz.prog w = .ok (some 63) w := by kernel_rfl
theorem AsK.mkE (p : Addr) (w : World) : (ReflectliteValue.mk 63 p ReflectliteValue.flagAddr).run Tryz.prog w = .ok (.agg #[.pointer (some ⟨9, 63, none⟩), .pointer (some p), .int .u64 386]) w := by kernel_rfl
theorem AsK.elemV (a p : Addr) (W : World) (ha : W.cell? a = some (.pointer (some p))) :
    (ReflectliteValue.method (ReflectliteValue.valueError "reflectlite.Value.Elem" 0) ReflectliteValue.elem #[.agg #[.pointer (some ⟨9, 109, none⟩), .pointer (some a), .int .u64 150]]).run Tryz.prog W
      = .ok (.agg #[.pointer (some ⟨9, 63, none⟩), .pointer (some p), .int .u64 386]) W := by
  rw [AsK.rlm]
  simp only [Sem.run_bind, AsK.partsP, Result.andThen]
  simp [ReflectliteValue.elem, loadVar, isAgg, underlying, Tryz.underlying109, ha, Result.andThen, AsK.elemOfP, AsK.mkE]
theorem AsK.rls (v x : Value) : ReflectliteValue.set #[v, x] = (do
    let (some (dst, a, fl), some (src, b, _)) := (← ReflectliteValue.parts v, ← ReflectliteValue.parts x)
      | unsupported (.noEntry "extern/(internal/reflectlite.Value).Set.zeroValue")
    if fl / ReflectliteValue.flagAddr % 2 == 0 then unsupported (.noEntry "extern/(internal/reflectlite.Value).Set.unaddressable")
    let val ← loadVar src b
    if ← Rtype.directlyAssignable dst src then storeVar dst a val
    else if ← Rtype.implements dst src then
      if (← Rtype.kind src) == 20 then
        match val with
        | .nilIface => unsupported (.noEntry "extern/reflectlite: a nil value of one interface type handed on as a value of another")
        | _ => storeVar dst a val
      else storeVar dst a (.iface src val)
    else panicString ("reflectlite.Set: value of type " ++ (← Rtype.spelt src) ++ " is not assignable to type " ++ (← Rtype.spelt dst))
    pure (.tuple #[])) := rfl
theorem AsK.partsEa (a : Addr) (w : World) : (ReflectliteValue.parts (.agg #[.pointer (some ⟨9, 63, none⟩), .pointer (some a), .int .u64 386])).run Tryz.prog w = .ok (some (63, a, 386)) w := by kernel_rfl
theorem AsK.partsE (a : Addr) (w : World) : (ReflectliteValue.parts (.agg #[.pointer (some ⟨9, 63, none⟩), .pointer (some a), .int .u64 130])).run Tryz.prog w = .ok (some (63, a, 130)) w := by kernel_rfl
theorem AsK.directE (w : World) : (Rtype.directlyAssignable 63 63).run Tryz.prog w = .ok true w := by kernel_rfl
theorem AsK.setE (ta b : Addr) (e : Int) (old : Value) (W : World) (hb : W.cell? b = some (.int .i64 e)) (ht : W.cell? ta = some old) (hf : W.frozen? ta = false) :
    (ReflectliteValue.set #[.agg #[.pointer (some ⟨9, 63, none⟩), .pointer (some ta), .int .u64 386], .agg #[.pointer (some ⟨9, 63, none⟩), .pointer (some b), .int .u64 130]]).run Tryz.prog W
      = .ok (.tuple #[]) (W.setCell ta (.int .i64 e)) := by
  rw [AsK.rls]
  simp only [Sem.run_bind, AsK.partsEa, AsK.partsE, Result.andThen]
  simp [ReflectliteValue.flagAddr, loadVar, isAgg, underlying, Tryz.underlying63, hb, Result.andThen, AsK.directE, storeVar, Value.cells, storeCells, Addr.add]
  rw [run_store Tryz.prog W ta _ _ (by rfl)]
  simp [ht, hf]
set_option maxHeartbeats 4000000 in
theorem as_in (k : Int) (a t : Addr) (old : Value) (w : World) (ha : w.cell? a = some (.pointer (some t))) (ht0 : w.cell? t = some old) (hf0 : w.frozen? t = false) :
    Calls Tryz.prog 76 #[.iface 63 (.int .i64 k), .iface 109 (.pointer (some t)), .agg #[.pointer (some ⟨9, 109, none⟩), .pointer (some a), .int .u64 150], .iface 176 (.agg #[.pointer (some ⟨9, 63, none⟩)])] w fun ev w' => ev = .returned (.bool true) ∧
      ((w.alloc (.cells #[.pointer (some ⟨9, 109, none⟩), .pointer (some a), .int .u64 150] 132)).alloc (.cells #[.int .i64 k] 63)).setCell t (.int .i64 k) = w' := by
  have h10 := @run_callFunc_extern Tryz.prog 109 _ ReflectliteType.typeOf Tryz.func109 (by kernel_rfl) (by kernel_rfl) (by kernel_rfl) (by kernel_rfl)
  have h35 := @run_callFunc_extern Tryz.prog 202 _ (ReflectliteType.relation "AssignableTo" ReflectliteType.assignableTo) Tryz.func202 (by kernel_rfl) (by kernel_rfl) (by kernel_rfl) (by kernel_rfl)
  have h11 := @run_callFunc_extern Tryz.prog 110 _ (ReflectliteValue.method (ReflectliteValue.valueError "reflectlite.Value.Elem" 0) ReflectliteValue.elem) Tryz.func110 (by kernel_rfl) (by kernel_rfl) (by kernel_rfl) (by kernel_rfl)
  have h6 := @run_callFunc_extern Tryz.prog 73 _ (fun args => ReflectliteValue.unpack (args.getD 0 (.tuple #[]))) Tryz.func73 (by kernel_rfl) (by kernel_rfl) (by kernel_rfl) (by kernel_rfl)
  have h12 := @run_callFunc_extern Tryz.prog 111 _ ReflectliteValue.set Tryz.func111 (by kernel_rfl) (by kernel_rfl) (by kernel_rfl) (by kernel_rfl)
  have tO := AsK.typeOfE
  have mA := AsK.methodAssignableTo
  have a25 := AsK.assignableE
  have v25 := AsK.valueOfE
  have hal : a.block < w.heap.size := block_lt ha
  have htl : t.block < w.heap.size := block_lt ht0
  have el := AsK.elemV a t (w.alloc (.cells #[.pointer (some ⟨9, 109, none⟩), .pointer (some a), .int .u64 150] 132)) (by rw [World.cell?_alloc_lt _ _ a hal]; exact ha)
  have st := AsK.setE t ⟨w.heap.size + 1, 0, none⟩ k old ((w.alloc (.cells #[.pointer (some ⟨9, 109, none⟩), .pointer (some a), .int .u64 150] 132)).alloc (.cells #[.int .i64 k] 63))
    (by rw [World.cell?_alloc_at _ _ _ _ (by simp)]; rfl)
    (by rw [World.cell?_alloc_lt _ _ t (by simp; omega), World.cell?_alloc_lt _ _ t htl]; exact ht0)
    (by rw [World.frozen?_alloc_old _ _ t (by simp; omega), World.frozen?_alloc_old _ _ t (Nat.ne_of_lt htl)]; exact hf0)
  go_enter Tryz.func76, Tryz.ntmps76
  go_wp2
  refine wp_loop_rounds 1 ?_
  rw [rounds_succ]
  go_wp2
  go_ret
  exact ⟨rfl, rfl⟩
set_option maxHeartbeats 4000000 in
theorem as_hit (k : Int) (t : Addr) (old : Value) (w : World) (hg : ErrT w) (ht0 : w.cell? t = some old) (hf0 : w.frozen? t = false) :
    Calls Tryz.prog 53 #[.iface 63 (.int .i64 k), .iface 109 (.pointer (some t))] w fun ev w' => ev = .returned (.bool true) ∧
      ((((w.alloc (.cells #[.pointer (some t)] 109)).alloc (.cells #[.pointer (some ⟨9, 109, none⟩), .pointer (some ⟨w.heap.size, 0, none⟩), .int .u64 150] 132)).alloc (.cells #[.pointer (some ⟨9, 109, none⟩), .pointer (some ⟨w.heap.size, 0, none⟩), .int .u64 150] 132)).alloc (.cells #[.int .i64 k] 63)).setCell t (.int .i64 k) = w' := by
  have h6 := @run_callFunc_extern Tryz.prog 73 _ (fun args => ReflectliteValue.unpack (args.getD 0 (.tuple #[]))) Tryz.func73 (by kernel_rfl) (by kernel_rfl) (by kernel_rfl) (by kernel_rfl)
  have h7 := @run_callFunc_extern Tryz.prog 74 _ (ReflectliteValue.methodAny (ReflectliteValue.valueError "reflectlite.Value.Type" 0) (fun t _ _ _ => ReflectliteType.toType t)) Tryz.func74 (by kernel_rfl) (by kernel_rfl) (by kernel_rfl) (by kernel_rfl)
  have h8 := @run_callFunc_extern Tryz.prog 75 _ (ReflectliteValue.method (ReflectliteValue.valueError "reflectlite.Value.IsNil" 0) ReflectliteValue.isNil) Tryz.func75 (by kernel_rfl) (by kernel_rfl) (by kernel_rfl) (by kernel_rfl)
  have h27 := @run_callFunc_extern Tryz.prog 191 _ (ReflectliteType.abiMethod fun t => do pure (.int .u8 (← Rtype.kind t))) Tryz.func191 (by kernel_rfl) (by kernel_rfl) (by kernel_rfl) (by kernel_rfl)
  have h37 := @run_callFunc_extern Tryz.prog 204 _ (ReflectliteType.method ReflectliteType.elem) Tryz.func204 (by kernel_rfl) (by kernel_rfl) (by kernel_rfl) (by kernel_rfl)
  have h38 := @run_callFunc_extern Tryz.prog 205 _ (ReflectliteType.relation "Implements" ReflectliteType.implements_) Tryz.func205 (by kernel_rfl) (by kernel_rfl) (by kernel_rfl) (by kernel_rfl)
  have f6 := AsK.valueOfP
  have f7 := AsK.typeP
  have mK := AsK.methodKind
  have mE := AsK.methodElem
  have mI := AsK.methodImplements
  have k27 := AsK.kindP
  have k25 := AsK.kindE
  have e27 := AsK.elemP
  have i25 := AsK.implementsE
  have n8 := AsK.isNilP ⟨w.heap.size, 0, none⟩ t ((w.alloc (.cells #[.pointer (some t)] 109)).alloc (.cells #[.pointer (some ⟨9, 109, none⟩), .pointer (some ⟨w.heap.size, 0, none⟩), .int .u64 150] 132)) (by simp)
  have hlt := hg.lt
  have hg2 : ((w.alloc (.cells #[.pointer (some t)] 109)).alloc (.cells #[.pointer (some ⟨9, 109, none⟩), .pointer (some ⟨w.heap.size, 0, none⟩), .int .u64 150] 132)).cell? ⟨0, 0, none⟩ = some (.iface 176 (.agg #[.pointer (some ⟨9, 35, none⟩)])) := by
    rw [World.cell?_alloc_lt _ _ ⟨0, 0, none⟩ (by simp), World.cell?_alloc_lt _ _ ⟨0, 0, none⟩ hlt]; exact hg
  have htl : t.block < w.heap.size := block_lt ht0
  have Hin := Lib.hid (as_in k ⟨w.heap.size, 0, none⟩ t old ((w.alloc (.cells #[.pointer (some t)] 109)).alloc (.cells #[.pointer (some ⟨9, 109, none⟩), .pointer (some ⟨w.heap.size, 0, none⟩), .int .u64 150] 132)) (by simp)
    (by rw [World.cell?_alloc_lt _ _ t (by simp; omega), World.cell?_alloc_lt _ _ t htl]; exact ht0)
    (by rw [World.frozen?_alloc_old _ _ t (by simp; omega), World.frozen?_alloc_old _ _ t (Nat.ne_of_lt htl)]; exact hf0))
  go_enter Tryz.func53, Tryz.ntmps53
  go_wp2_with (go_at_call 76; with_reducible refine Hin.out.mono ?_; rintro e w' ⟨rfl, rfl⟩)
  go_ret
  exact ⟨rfl, rfl⟩
end Go.Proofs.YtanlmfnhlldkeaaGreatDoor

namespace Go
section
variable {P : Program} (w : World)
theorem run_equalIn_iface_int_ (d : Nat) {ti tn : TypeId} {ms : Array (String × TypeId)} {i : TypeInfo} {k : IntKind} (a b : Int)
    (hi : P.underlying ti = some (.interface ms)) (hn : P.underlying tn = some (.int k)) (hinfo : P.info? tn = some i) (hcomp : i.comparable = true) :
    (Op.equalIn (d + 2) ti (.iface tn (.int k a)) (.iface tn (.int k b))).run P w = .ok (a == b) w := by
  simp [Op.equalIn, run_underlying hi, run_underlying hn, typeInfo, hinfo, hcomp]
theorem run_eql_iface_int_ {ti tn : TypeId} {ms : Array (String × TypeId)} {i : TypeInfo} {k : IntKind} (a b : Int)
    (hi : P.underlying ti = some (.interface ms)) (hn : P.underlying tn = some (.int k)) (hinfo : P.info? tn = some i) (hcomp : i.comparable = true) :
    (binOp .eql ti (.iface tn (.int k a)) (.iface tn (.int k b))).run P w = .ok (.bool (a == b)) w := by
  simp only [binOp]
  simp [Op.equal, Op.maxDepth, run_equalIn_iface_int_ w 9998 a b hi hn hinfo hcomp]
end
end Go
namespace Go.Proofs.YtanlmfnhlldkeaaGreatDoor
open Go.RowKit Go.Extern.Stop Go.Stop Go.Extern
set_option linter.unusedVariables false

/-- What stands for Comparable. -/
def IsK.cmp : Array Value → Sem Value := Extern.ReflectliteType.method fun t => do Extern.Rtype.noPackHeld "Comparable" t; pure (.bool (← typeInfo t).comparable)
theorem IsK.comparable (w : World) : (IsK.cmp #[.agg #[.pointer (some ⟨9, 63, none⟩)]]).run Tryz.prog w = .ok (.bool true) w := by kernel_rfl
theorem IsK.methodComparable (v : Value) (w : World) : (Go.method 385 176 v "Comparable").run Tryz.prog w = .ok (203, v) w := by kernel_rfl
theorem IsK.comp : (Tryz.prog.info? 63).map (·.comparable) = some true := by kernel_rfl
theorem IsK.noIs (v : Value) (xT : TypeId) (w : World) : (Instr.typeAssert (.iface 63 v) xT 247 true).run Tryz.prog w = .ok (.tuple #[.nilIface, .bool false]) w := run_typeAssert_lacksB Tryz.underlying247 (by kernel_rfl) (by kernel_rfl) v xT w
theorem IsK.noUnwrap (v : Value) (xT : TypeId) (w : World) : (Instr.typeAssert (.iface 63 v) xT 184 true).run Tryz.prog w = .ok (.tuple #[.nilIface, .bool false]) w := run_typeAssert_lacksB Tryz.underlying184 (by kernel_rfl) (by kernel_rfl) v xT w
theorem IsK.noUnwraps (v : Value) (xT : TypeId) (w : World) : (Instr.typeAssert (.iface 63 v) xT 186 true).run Tryz.prog w = .ok (.tuple #[.nilIface, .bool false]) w := run_typeAssert_lacksB Tryz.underlying186 (by kernel_rfl) (by kernel_rfl) v xT w
theorem is_none (k : Int) (w : World) : Calls Tryz.prog 120 #[.nilIface, .iface 63 (.int .i64 k)] w fun e w' => e = .returned (.bool false) ∧ w = w' := by
  have hn := run_eql_iface_nil_left (P := Tryz.prog) w 63 (.int .i64 k) Tryz.underlying35
  go_enter Tryz.func120, Tryz.ntmps120
  go_wp2
  go_ret
  exact ⟨rfl, rfl⟩
set_option maxHeartbeats 2000000 in
theorem is_some (a k : Int) (r : Bool) (hr : (a == k) = r) (w : World) : Calls Tryz.prog 120 #[.iface 63 (.int .i64 a), .iface 63 (.int .i64 k)] w fun e w' => e = .returned (.bool r) ∧ w = w' := by
  obtain ⟨i, hi, hcmp⟩ := Option.map_eq_some_iff.1 IsK.comp
  have h8 := @run_callFunc_extern Tryz.prog 109 _ Extern.ReflectliteType.typeOf Tryz.func109 (by kernel_rfl) (by kernel_rfl) (by kernel_rfl) (by kernel_rfl)
  have h32 := @run_callFunc_extern Tryz.prog 203 _ IsK.cmp Tryz.func203 (by kernel_rfl) (by kernel_rfl) (by kernel_rfl) (by kernel_rfl)
  have tT := AsK.typeOfE
  have cT := IsK.comparable
  have mR := IsK.methodComparable
  have nE := IsK.noIs
  have uE := IsK.noUnwrap
  have vE := IsK.noUnwraps
  have heq := run_eql_iface_int_ (P := Tryz.prog) w a k Tryz.underlying35 Tryz.underlying63 hi hcmp
  rw [hr] at heq
  have Hr := Lib.hid hr
  clear hr
  cases r with
  | true =>
    go_enter Tryz.func120, Tryz.ntmps120
    go_wp2
    refine wp_loop_rounds 1 ?_
    rw [rounds_succ]
    go_wp2
    go_ret
    exact ⟨rfl, rfl⟩
  | false =>
    go_enter Tryz.func120, Tryz.ntmps120
    go_wp2
    refine wp_loop_rounds 1 ?_
    rw [rounds_succ]
    go_wp2
    go_ret
    exact ⟨rfl, rfl⟩
end Go.Proofs.YtanlmfnhlldkeaaGreatDoor

namespace Go.Proofs.YtanlmfnhlldkeaaGreatDoor
open Go.RowKit
set_option maxRecDepth 100000
set_option linter.unusedVariables false

/-- The sum of the first k bytes. -/
theorem wsum_take {l : List UInt8} {k : Nat} (h : k < l.length) : wsum (l.take (k + 1)) 0 = wsum (l.take k) 0 + (k + 1) * (l.getD k 0).toNat := by
  rw [List.take_add_one, List.getElem?_eq_getElem h, Option.toList_some, wsum_append, List.length_take, Nat.min_eq_left (Nat.le_of_lt h), Nat.zero_add, wsum, wsum, List.getD_eq_getElem?_getD, List.getElem?_eq_getElem h]
  rfl
theorem below_bytesW (w : World) (e : TypeId) (s : ByteArray) : Below w.heap.size w (Lib.bytesWorld w e s) :=
  ⟨rfl, rfl, rfl, by rw [Lib.bytesWorld_size]; omega, fun k hk => Lib.bytesWorld_at_old w e s k hk⟩
set_option maxHeartbeats 4000000 in
theorem next_any {c : Nat} {s : ByteArray} (hc : c < 9973) (hs : s.size ≤ 100000) (w : World) :
    Calls Tryz.prog 122 #[.int .i64 c, .string s] w fun e w' => e = .returned (.int .i64 (linkV c s.data.toList : Nat)) ∧ Below w.heap.size w w' := by
  have hcv := Lib.run_convert_string_bytes (P := Tryz.prog) w 9 80 5 s Tryz.underlying9 Tryz.underlying80 Tryz.underlying5
  have hcell := Lib.hid (fun j (hj : j < s.size) => Lib.bytesWorld_cell w 5 s j hj)
  have hb := below_bytesW w 5 s
  have hsz := Lib.hid (show s.data.toList.length = s.size from Array.length_toList ..)
  have Hle := Lib.hid (fun k => wsum_le (s.data.toList.take k) 0)
  have Hlk := Lib.hid (show linkV c s.data.toList = (c * 31 + wsum s.data.toList 0) % 9973 from rfl)
  rw [Hlk.out]
  generalize s.data.toList = l at *
  generalize s.size = m at *
  generalize Lib.bytesWorld w 5 s = w1 at *
  generalize grownCap w m 0 5 = cap at *
  go_enter Tryz.func122, Tryz.ntmps122
  go_wp2_with fail
  clear hcv
  go_loopw [5, 13] (fun nv i wr => ∃ (k S : Nat), k ≤ m ∧ i = .int .i64 k ∧ nv = .int .i64 (S : Nat) ∧ Hid (S = c * 31 + wsum (l.take k) 0) ∧ wr = w1) (fun _ i _ => m - (intOf i).toNat)
  case atStart => exact ⟨0, c * 31, Nat.zero_le _, rfl, rfl, Lib.hid (by rw [List.take_zero, wsum, Nat.add_zero]), rfl⟩
  case round =>
    obtain ⟨k, S, hk, rfl, rfl, hS, hwr⟩ := hrel
    have hwr2 : w1 = wr := hwr.symm
    clear hwr
    subst hwr2
    have hS0 : S ≤ 3000000000000 := by
      have h1 := Hle.out k
      have h2 : (l.take k).length ≤ 100000 := by rw [List.length_take]; have := hsz.out; omega
      have h3 := hS.out
      have h4 : (l.take k).length * ((0 + (l.take k).length) * 255) ≤ 100000 * (100000 * 255) := Nat.mul_le_mul h2 (by omega)
      omega
    by_cases hlt : k < m
    · have hc1 := hcell.out k hlt
      have hx : (l.getD k 0).toNat < 256 := (l.getD k 0).toNat_lt
      have hS1 := Lib.hid (show S + (k + 1) * (l.getD k 0).toNat = c * 31 + wsum (l.take (k + 1)) 0 by rw [wsum_take (by have := hsz.out; omega), hS.out]; omega)
      generalize (l.getD k 0).toNat = x at *
      obtain ⟨y, hy⟩ : ∃ y, (k + 1) * x = y := ⟨_, rfl⟩
      rw [hy] at hS1
      have hp2 : (k + 1) * x ≤ 100000 * 256 := Nat.mul_le_mul (by omega) (by omega)
      have hy0 : y ≤ 25600000 := by omega
      have hw1 : wrap64 (((k : Int) + 1) * (x : Int)) = (y : Int) := by rw [show ((k : Int) + 1) * (x : Int) = (y : Int) by rw [← hy]; push_cast; rfl]; unfold wrap64; omega
      have hw2 : IntKind.i64.wrap (((k : Int) + 1) * (x : Int)) = (y : Int) := by rw [show ((k : Int) + 1) * (x : Int) = (y : Int) by rw [← hy]; push_cast; rfl, IntKind.wrap_i64]; omega
      clear hy hp2
      go_wp2_with fail
      refine ⟨⟨k + 1, S + y, ?ya, ?yb, ?yc, hS1, trivial⟩, ?yd⟩
      case ya => omega
      case yb => go_num
      case yc => go_num
      case yd => simp [intOf]; omega
    · obtain rfl : k = m := by omega
      have hfin := Lib.hid (show S = c * 31 + wsum l 0 by have := hS.out; rwa [List.take_of_length_le (by have := hsz.out; omega)] at this)
      go_wp2_with fail
      go_ret
      refine ⟨?_, hb⟩
      rw [← hfin.out]
      rfl
theorem trTold_nil (w : World) : Calls Tryz.prog 121 #[.nilIface] w fun e w' => e = .returned (.int .i64 0) ∧ Below w.heap.size w w' := by
  go_enter Tryz.func121, Tryz.ntmps121
  go_wp2
  go_ret
  exact ⟨rfl, (Below.refl _ w).alloc (Nat.le_refl _) _⟩
theorem trTold_no (k : Int) (w : World) (hg : ErrT w) : Calls Tryz.prog 121 #[.iface 63 (.int .i64 k)] w fun e w' => e = .returned (.int .i64 k) ∧ Below w.heap.size w w' := by
  have Hh := Lib.hid (as_hit k ⟨w.heap.size, 0, none⟩ (.int .i64 0) (w.alloc (.cells #[.int .i64 0] 63)) (hg.next ((Below.refl _ w).alloc (Nat.le_refl _) _)) (by simp) (by simp))
  clear hg
  go_enter Tryz.func121, Tryz.ntmps121
  go_wp2_with (go_at_call 53; with_reducible refine Hh.out.mono ?_; rintro e w' ⟨rfl, rfl⟩)
  go_ret
  exact ⟨rfl, (((((Below.refl _ w).alloc (Nat.le_refl _) _).alloc (by simp) _).alloc (by simp; omega) _).alloc (by simp; omega) _).alloc (by simp; omega) _⟩
theorem trTold_any (k : Nat) (w : World) (hg : ErrT w) : Calls Tryz.prog 121 #[errVal k] w fun e w' => e = .returned (.int .i64 k) ∧ Below w.heap.size w w' := by
  unfold errVal
  split
  · rename_i h; subst h; exact trTold_nil w
  · exact trTold_no k w hg
theorem Is_any (k : Nat) (w : World) : Calls Tryz.prog 120 #[errVal k, .iface 63 (.int .i64 1)] w fun e w' => e = .returned (.bool (decide (k = 1))) ∧ w = w' := by
  unfold errVal
  split
  · rename_i h; subst h; exact is_none 1 w
  · exact is_some k 1 (decide (k = 1)) (by rw [Bool.eq_iff_iff]; simp; omega) w
end Go.Proofs.YtanlmfnhlldkeaaGreatDoor
