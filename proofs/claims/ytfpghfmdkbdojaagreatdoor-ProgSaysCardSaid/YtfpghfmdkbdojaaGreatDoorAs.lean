/-
  Contracts: errors.As at a target *api.Errno, plain.Told, quietwingsame.Error. (errors.As after the guide's worked text ToyasAs.)
-/
import Derived.Test.YtfpghfmdkbdojaaGreatDoorErr
import Derived.LaidEql
import Derived.Stop.Asserts
import Derived.RowKitTokens
namespace Go.Proofs.YtfpghfmdkbdojaaGreatDoor
open Go.RowKit Go.Extern.Stop Go.Stop Go.Extern

/-- The variable errors.errorType holds the handle of the type error. -/
def ErrT (w : World) : Prop := w.cell? ⟨0, 0, none⟩ = some (.iface 97 (.agg #[.pointer (some ⟨7, 26, none⟩)]))
theorem ErrT.lt {w : World} (h : ErrT w) : 0 < w.heap.size := block_lt h
theorem ErrT.next {w w' : World} (h : ErrT w) (hb : Below w.heap.size w w') : ErrT w' := (hb.cell (p := ⟨0, 0, none⟩) h.lt).trans h

theorem as_nil (t : Value) (w : World) :
    Calls Tryz.prog 29 #[.nilIface, t] w fun e w' => e = .returned (.bool false) ∧ w = w' := by
  go_enter Tryz.func29, Tryz.ntmps29
  go_wp2
  go_ret
  exact ⟨rfl, rfl⟩

theorem AsK.valueOfP (t : Addr) (w : World) : (ReflectliteValue.unpack (.iface 67 (.pointer (some t)))).run Tryz.prog w
    = .ok (.agg #[.pointer (some ⟨7, 67, none⟩), .pointer (some ⟨w.heap.size, 0, none⟩), .int .u64 150]) (w.alloc (.cells #[.pointer (some t)] 67)) := by kernel_rfl
theorem AsK.typeP (a : Addr) (w : World) : (ReflectliteValue.methodAny (ReflectliteValue.valueError "reflectlite.Value.Type" 0) (fun t _ _ _ => ReflectliteType.toType t) #[.agg #[.pointer (some ⟨7, 67, none⟩), .pointer (some a), .int .u64 150]]).run Tryz.prog w
    = .ok (.iface 97 (.agg #[.pointer (some ⟨7, 67, none⟩)])) w := by kernel_rfl
theorem AsK.methodKind (h : Value) (w : World) : (Go.method 274 97 (.agg #[h]) "Kind").run Tryz.prog w = .ok (103, h) w := by kernel_rfl
theorem AsK.kindP (w : World) : ((ReflectliteType.abiMethod fun t => (fun a : Nat => Value.int IntKind.u8 (a : Int)) <$> Rtype.kind t) #[.pointer (some ⟨7, 67, none⟩)]).run Tryz.prog w = .ok (.int .u8 22) w := by kernel_rfl
theorem AsK.kindE (w : World) : ((ReflectliteType.abiMethod fun t => (fun a : Nat => Value.int IntKind.u8 (a : Int)) <$> Rtype.kind t) #[.pointer (some ⟨7, 43, none⟩)]).run Tryz.prog w = .ok (.int .u8 2) w := by kernel_rfl
theorem AsK.rlm (z : Sem Value) (f : TypeId → Addr → Nat → Nat → Sem Value) (v : Value) :
    ReflectliteValue.method z f #[v] = (do match ← ReflectliteValue.parts v with | none => z | some (t, a, fl) => f t a fl (fl % 32)) := rfl
theorem AsK.partsP (a : Addr) (w : World) : (ReflectliteValue.parts (.agg #[.pointer (some ⟨7, 67, none⟩), .pointer (some a), .int .u64 150])).run Tryz.prog w = .ok (some (67, a, 150)) w := by kernel_rfl
theorem AsK.isNilP (a p : Addr) (W : World) (ha : W.cell? a = some (.pointer (some p))) :
    (ReflectliteValue.method (ReflectliteValue.valueError "reflectlite.Value.IsNil" 0) ReflectliteValue.isNil #[.agg #[.pointer (some ⟨7, 67, none⟩), .pointer (some a), .int .u64 150]]).run Tryz.prog W = .ok (.bool false) W := by
  rw [AsK.rlm]
  simp only [Sem.run_bind, AsK.partsP, Result.andThen]
  simp [ReflectliteValue.isNil, loadVar, isAgg, underlying, Tryz.underlying67, ha, Result.andThen]
theorem AsK.methodElem (h : Value) (w : World) : (Go.method 274 97 (.agg #[h]) "Elem").run Tryz.prog w = .ok (114, .agg #[h]) w := by kernel_rfl
theorem AsK.methodImplements (h : Value) (w : World) : (Go.method 274 97 (.agg #[h]) "Implements").run Tryz.prog w = .ok (115, .agg #[h]) w := by kernel_rfl
theorem AsK.methodAssignableTo (h : Value) (w : World) : (Go.method 274 97 (.agg #[h]) "AssignableTo").run Tryz.prog w = .ok (112, .agg #[h]) w := by kernel_rfl
theorem AsK.elemP (w : World) : (ReflectliteType.method ReflectliteType.elem #[.agg #[.pointer (some ⟨7, 67, none⟩)]]).run Tryz.prog w = .ok (.iface 97 (.agg #[.pointer (some ⟨7, 43, none⟩)])) w := by kernel_rfl
theorem AsK.implementsE (w : World) : (ReflectliteType.relation "Implements" ReflectliteType.implements_ #[.agg #[.pointer (some ⟨7, 43, none⟩)], .iface 97 (.agg #[.pointer (some ⟨7, 26, none⟩)])]).run Tryz.prog w = .ok (.bool true) w := by kernel_rfl
theorem AsK.typeOfE (v : Value) (w : World) : (ReflectliteType.typeOf #[.iface 43 v]).run Tryz.prog w = .ok (.iface 97 (.agg #[.pointer (some ⟨7, 43, none⟩)])) w := by kernel_rfl
theorem AsK.assignableE (w : World) : (ReflectliteType.relation "AssignableTo" ReflectliteType.assignableTo #[.agg #[.pointer (some ⟨7, 43, none⟩)], .iface 97 (.agg #[.pointer (some ⟨7, 43, none⟩)])]).run Tryz.prog w = .ok (.bool true) w := by kernel_rfl
theorem AsK.valueOfE (e : Int) (w : World) : (ReflectliteValue.unpack (.iface 43 (.int .i64 e))).run Tryz.prog w
    = .ok (.agg #[.pointer (some ⟨7, 43, none⟩), .pointer (some ⟨w.heap.size, 0, none⟩), .int .u64 130]) (w.alloc (.cells #[.int .i64 e] 43)) := by kernel_rfl
theorem AsK.elemOfP (w : World) : (Rtype.elem? 67).run Tryz.prog w = .ok (some 43) w := by kernel_rfl
theorem AsK.mkE (p : Addr) (w : World) : (ReflectliteValue.mk 43 p ReflectliteValue.flagAddr).run Tryz.prog w = .ok (.agg #[.pointer (some ⟨7, 43, none⟩), .pointer (some p), .int .u64 386]) w := by kernel_rfl
theorem AsK.elemV (a p : Addr) (W : World) (ha : W.cell? a = some (.pointer (some p))) :
    (ReflectliteValue.method (ReflectliteValue.valueError "reflectlite.Value.Elem" 0) ReflectliteValue.elem #[.agg #[.pointer (some ⟨7, 67, none⟩), .pointer (some a), .int .u64 150]]).run Tryz.prog W
      = .ok (.agg #[.pointer (some ⟨7, 43, none⟩), .pointer (some p), .int .u64 386]) W := by
  rw [AsK.rlm]
  simp only [Sem.run_bind, AsK.partsP, Result.andThen]
  simp [ReflectliteValue.elem, loadVar, isAgg, underlying, Tryz.underlying67, ha, Result.andThen, AsK.elemOfP, AsK.mkE]
theorem AsK.rls (v x : Value) : ReflectliteValue.set #[v, x] = (do
    let (some (dst, a, fl), some (src, b, _)) := (← ReflectliteValue.parts v, ← ReflectliteValue.parts x)
      | unsupported (.noEntry "extern/(internal/reflectlite.Value).Set.zeroValue")
    if fl / ReflectliteValue.flagAddr % 2 == 0 then unsupported (.noEntry "extern/(internal/reflectlite.Value).Set.unaddressable")
    let val ← loadVar src b
    if ← Rtype.directlyAssignable dst src then storeVar dst a val
    else if ← Rtype.implements dst src then
      if (← Rtype.kind src) == 20 then
        match val with
        | .nilIface => unsupported (.noEntry "extern/reflectlite: a nil value of one interface type handed on as a value of another")
        | _ => storeVar dst a val
      else storeVar dst a (.iface src val)
    else panicString ("reflectlite.Set: value of type " ++ (← Rtype.spelt src) ++ " is not assignable to type " ++ (← Rtype.spelt dst))
    pure (.tuple #[])) := rfl
theorem AsK.partsEa (a : Addr) (w : World) : (ReflectliteValue.parts (.agg #[.pointer (some ⟨7, 43, none⟩), .pointer (some a), .int .u64 386])).run Tryz.prog w = .ok (some (43, a, 386)) w := by kernel_rfl
theorem AsK.partsE (a : Addr) (w : World) : (ReflectliteValue.parts (.agg #[.pointer (some ⟨7, 43, none⟩), .pointer (some a), .int .u64 130])).run Tryz.prog w = .ok (some (43, a, 130)) w := by kernel_rfl
theorem AsK.directE (w : World) : (Rtype.directlyAssignable 43 43).run Tryz.prog w = .ok true w := by kernel_rfl
theorem AsK.setE (ta b : Addr) (e : Int) (old : Value) (W : World) (hb : W.cell? b = some (.int .i64 e)) (ht : W.cell? ta = some old) (hf : W.frozen? ta = false) :
    (ReflectliteValue.set #[.agg #[.pointer (some ⟨7, 43, none⟩), .pointer (some ta), .int .u64 386], .agg #[.pointer (some ⟨7, 43, none⟩), .pointer (some b), .int .u64 130]]).run Tryz.prog W
      = .ok (.tuple #[]) (W.setCell ta (.int .i64 e)) := by
  rw [AsK.rls]
  simp only [Sem.run_bind, AsK.partsEa, AsK.partsE, Result.andThen]
  simp [ReflectliteValue.flagAddr, loadVar, isAgg, underlying, Tryz.underlying43, hb, Result.andThen, AsK.directE, storeVar, Value.cells, storeCells, Addr.add]
  rw [run_store Tryz.prog W ta _ _ (by rfl)]
  simp [ht, hf]

set_option maxHeartbeats 4000000 in
theorem as_in (k : Int) (a t : Addr) (old : Value) (w : World) (ha : w.cell? a = some (.pointer (some t))) (ht0 : w.cell? t = some old) (hf0 : w.frozen? t = false) :
    Calls Tryz.prog 43 #[.iface 43 (.int .i64 k), .iface 67 (.pointer (some t)), .agg #[.pointer (some ⟨7, 67, none⟩), .pointer (some a), .int .u64 150], .iface 97 (.agg #[.pointer (some ⟨7, 43, none⟩)])] w fun ev w' => ev = .returned (.bool true) ∧
      ((w.alloc (.cells #[.pointer (some ⟨7, 67, none⟩), .pointer (some a), .int .u64 150] 81)).alloc (.cells #[.int .i64 k] 43)).setCell t (.int .i64 k) = w' := by
  have h10 := @run_callFunc_extern Tryz.prog 56 _ ReflectliteType.typeOf Tryz.func56 (by kernel_rfl) (by kernel_rfl) (by kernel_rfl) (by kernel_rfl)
  have h35 := @run_callFunc_extern Tryz.prog 112 _ (ReflectliteType.relation "AssignableTo" ReflectliteType.assignableTo) Tryz.func112 (by kernel_rfl) (by kernel_rfl) (by kernel_rfl) (by kernel_rfl)
  have h11 := @run_callFunc_extern Tryz.prog 57 _ (ReflectliteValue.method (ReflectliteValue.valueError "reflectlite.Value.Elem" 0) ReflectliteValue.elem) Tryz.func57 (by kernel_rfl) (by kernel_rfl) (by kernel_rfl) (by kernel_rfl)
  have h6 := @run_callFunc_extern Tryz.prog 40 _ (fun args => ReflectliteValue.unpack (args.getD 0 (.tuple #[]))) Tryz.func40 (by kernel_rfl) (by kernel_rfl) (by kernel_rfl) (by kernel_rfl)
  have h12 := @run_callFunc_extern Tryz.prog 58 _ ReflectliteValue.set Tryz.func58 (by kernel_rfl) (by kernel_rfl) (by kernel_rfl) (by kernel_rfl)
  have tO := AsK.typeOfE
  have mA := AsK.methodAssignableTo
  have a25 := AsK.assignableE
  have v25 := AsK.valueOfE
  have hal : a.block < w.heap.size := block_lt ha
  have htl : t.block < w.heap.size := block_lt ht0
  have el := AsK.elemV a t (w.alloc (.cells #[.pointer (some ⟨7, 67, none⟩), .pointer (some a), .int .u64 150] 81)) (by rw [World.cell?_alloc_lt _ _ a hal]; exact ha)
  have st := AsK.setE t ⟨w.heap.size + 1, 0, none⟩ k old ((w.alloc (.cells #[.pointer (some ⟨7, 67, none⟩), .pointer (some a), .int .u64 150] 81)).alloc (.cells #[.int .i64 k] 43))
    (by rw [World.cell?_alloc_at _ _ _ _ (by simp)]; rfl)
    (by rw [World.cell?_alloc_lt _ _ t (by simp; omega), World.cell?_alloc_lt _ _ t htl]; exact ht0)
    (by rw [World.frozen?_alloc_old _ _ t (by simp; omega), World.frozen?_alloc_old _ _ t (Nat.ne_of_lt htl)]; exact hf0)
  go_enter Tryz.func43, Tryz.ntmps43
  go_wp2
  refine wp_loop_rounds 1 ?_
  rw [rounds_succ]
  go_wp2
  go_ret
  exact ⟨rfl, rfl⟩

set_option maxHeartbeats 4000000 in
theorem as_hit (k : Int) (t : Addr) (old : Value) (w : World) (hg : ErrT w) (ht0 : w.cell? t = some old) (hf0 : w.frozen? t = false) :
    Calls Tryz.prog 29 #[.iface 43 (.int .i64 k), .iface 67 (.pointer (some t))] w fun ev w' => ev = .returned (.bool true) ∧
      ((((w.alloc (.cells #[.pointer (some t)] 67)).alloc (.cells #[.pointer (some ⟨7, 67, none⟩), .pointer (some ⟨w.heap.size, 0, none⟩), .int .u64 150] 81)).alloc (.cells #[.pointer (some ⟨7, 67, none⟩), .pointer (some ⟨w.heap.size, 0, none⟩), .int .u64 150] 81)).alloc (.cells #[.int .i64 k] 43)).setCell t (.int .i64 k) = w' := by
  have h6 := @run_callFunc_extern Tryz.prog 40 _ (fun args => ReflectliteValue.unpack (args.getD 0 (.tuple #[]))) Tryz.func40 (by kernel_rfl) (by kernel_rfl) (by kernel_rfl) (by kernel_rfl)
  have h7 := @run_callFunc_extern Tryz.prog 41 _ (ReflectliteValue.methodAny (ReflectliteValue.valueError "reflectlite.Value.Type" 0) (fun t _ _ _ => ReflectliteType.toType t)) Tryz.func41 (by kernel_rfl) (by kernel_rfl) (by kernel_rfl) (by kernel_rfl)
  have h8 := @run_callFunc_extern Tryz.prog 42 _ (ReflectliteValue.method (ReflectliteValue.valueError "reflectlite.Value.IsNil" 0) ReflectliteValue.isNil) Tryz.func42 (by kernel_rfl) (by kernel_rfl) (by kernel_rfl) (by kernel_rfl)
  have h27 := @run_callFunc_extern Tryz.prog 103 _ (ReflectliteType.abiMethod fun t => do pure (.int .u8 (← Rtype.kind t))) Tryz.func103 (by kernel_rfl) (by kernel_rfl) (by kernel_rfl) (by kernel_rfl)
  have h37 := @run_callFunc_extern Tryz.prog 114 _ (ReflectliteType.method ReflectliteType.elem) Tryz.func114 (by kernel_rfl) (by kernel_rfl) (by kernel_rfl) (by kernel_rfl)
  have h38 := @run_callFunc_extern Tryz.prog 115 _ (ReflectliteType.relation "Implements" ReflectliteType.implements_) Tryz.func115 (by kernel_rfl) (by kernel_rfl) (by kernel_rfl) (by kernel_rfl)
  have f6 := AsK.valueOfP
  have f7 := AsK.typeP
  have mK := AsK.methodKind
  have mE := AsK.methodElem
  have mI := AsK.methodImplements
  have k27 := AsK.kindP
  have k25 := AsK.kindE
  have e27 := AsK.elemP
  have i25 := AsK.implementsE
  have n8 := AsK.isNilP ⟨w.heap.size, 0, none⟩ t ((w.alloc (.cells #[.pointer (some t)] 67)).alloc (.cells #[.pointer (some ⟨7, 67, none⟩), .pointer (some ⟨w.heap.size, 0, none⟩), .int .u64 150] 81)) (by simp)
  have hlt := hg.lt
  have hg2 : ((w.alloc (.cells #[.pointer (some t)] 67)).alloc (.cells #[.pointer (some ⟨7, 67, none⟩), .pointer (some ⟨w.heap.size, 0, none⟩), .int .u64 150] 81)).cell? ⟨0, 0, none⟩ = some (.iface 97 (.agg #[.pointer (some ⟨7, 26, none⟩)])) := by
    rw [World.cell?_alloc_lt _ _ ⟨0, 0, none⟩ (by simp), World.cell?_alloc_lt _ _ ⟨0, 0, none⟩ hlt]; exact hg
  have htl : t.block < w.heap.size := block_lt ht0
  have Hin := Lib.hid (as_in k ⟨w.heap.size, 0, none⟩ t old ((w.alloc (.cells #[.pointer (some t)] 67)).alloc (.cells #[.pointer (some ⟨7, 67, none⟩), .pointer (some ⟨w.heap.size, 0, none⟩), .int .u64 150] 81)) (by simp)
    (by rw [World.cell?_alloc_lt _ _ t (by simp; omega), World.cell?_alloc_lt _ _ t htl]; exact ht0)
    (by rw [World.frozen?_alloc_old _ _ t (by simp; omega), World.frozen?_alloc_old _ _ t (Nat.ne_of_lt htl)]; exact hf0))
  go_enter Tryz.func29, Tryz.ntmps29
  go_wp2_with (go_at_call 43; with_reducible refine Hin.out.mono ?_; rintro e w' ⟨rfl, rfl⟩)
  go_ret
  exact ⟨rfl, rfl⟩

theorem told_nil (w : World) : Calls Tryz.prog 15 #[.nilIface] w fun e w' => e = .returned (.int .i64 0) ∧ Below w.heap.size w w' := by
  go_enter Tryz.func15, Tryz.ntmps15
  go_wp2
  go_ret
  exact ⟨rfl, Below.refl _ _⟩
theorem told_no (k : Int) (w : World) (hg : ErrT w) : Calls Tryz.prog 15 #[.iface 43 (.int .i64 k)] w fun e w' => e = .returned (.int .i64 k) ∧ Below w.heap.size w w' := by
  have Hh := Lib.hid (as_hit k ⟨w.heap.size, 0, none⟩ (.int .i64 0) (w.alloc (.cells #[.int .i64 0] 43)) (hg.next ((Below.refl _ w).alloc (Nat.le_refl _) _)) (by simp) (by simp))
  clear hg
  go_enter Tryz.func15, Tryz.ntmps15
  go_wp2_with (go_at_call 29; with_reducible refine Hh.out.mono ?_; rintro e w' ⟨rfl, rfl⟩)
  go_ret
  exact ⟨rfl, (((((Below.refl _ w).alloc (Nat.le_refl _) _).alloc (by simp) _).alloc (by simp; omega) _).alloc (by simp; omega) _).alloc (by simp; omega) _⟩
theorem Told_any (k : Nat) (w : World) (hg : ErrT w) : Calls Tryz.prog 15 #[errVal k] w fun e w' => e = .returned (.int .i64 k) ∧ Below w.heap.size w w' := by
  unfold errVal
  split
  · rename_i h; subst h; exact told_nil w
  · exact told_no k w hg
theorem Error_any (k : Nat) (c : Int) (w : World) (hg : ErrT w) : Calls Tryz.prog 5 #[errVal k, .int .i64 c] w fun e w' => e = .returned (.bool (decide ((k : Int) = c))) ∧ Below w.heap.size w w' := by
  have Hh := Lib.hid (Told_any k w hg)
  clear hg
  have Hd := Lib.hid (show decide ((k : Int) = c) = ((k : Int) == c) by rw [Bool.eq_iff_iff]; simp)
  go_enter Tryz.func5, Tryz.ntmps5
  go_wp2_with (go_at_call 15; with_reducible refine Hh.out.mono ?_; rintro e w' ⟨rfl, hbk⟩)
  go_ret
  exact ⟨ret_bool Hd.out.symm, by assumption⟩
theorem Error_is (k : Nat) (c : Int) (b : Bool) (w : World) (hg : ErrT w) (h : decide ((k : Int) = c) = b) : Calls Tryz.prog 5 #[errVal k, .int .i64 c] w fun e w' => e = .returned (.bool b) ∧ Below w.heap.size w w' := by
  subst h; exact Error_any k c w hg
end Go.Proofs.YtfpghfmdkbdojaaGreatDoor
