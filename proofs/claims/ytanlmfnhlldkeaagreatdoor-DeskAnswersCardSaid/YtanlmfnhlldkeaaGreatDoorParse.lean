/-
  Contract: label.Parse.
-/
import Derived.Test.YtanlmfnhlldkeaaGreatDoorDkNA
import Derived.Test.YtanlmfnhlldkeaaGreatDoorLoopA
import Derived.Test.YtanlmfnhlldkeaaGreatDoorAsA
import Derived.Lib.ConvBytes
namespace Go.Proofs.YtanlmfnhlldkeaaGreatDoor
open Go.RowKit
set_option maxRecDepth 100000
set_option linter.unusedVariables false

/-- What Parse answers. -/
theorem wrap_powL (k : Nat) (h : k < 62) : IntKind.i64.wrap (2 ^ k) = ((2 ^ k : Nat) : Int) := by
  have h0 := two_pow_lt k h
  have h1 : (0 : Int) < 2 ^ k := Int.pow_pos (by decide)
  rw [IntKind.wrap_i64]; push_cast; omega
def parseRes (l : List UInt8) : Value := match parseV l with
  | some (v, s) => .tuple #[labV v s, .nilIface]
  | none => .tuple #[labV 0 0, errVal 2]
theorem below_bytes (w : World) (e : TypeId) (s : ByteArray) : Below w.heap.size w (Lib.bytesWorld w e s) :=
  ⟨rfl, rfl, rfl, by rw [Lib.bytesWorld_size]; omega, fun k hk => Lib.bytesWorld_at_old w e s k hk⟩
theorem first_byte {s : ByteArray} {c : UInt8} {t : List UInt8} (h : s.data.toList = c :: t) (hsz : 0 < s.size) : ((s[0]'hsz).toNat : Int) = (c.toNat : Int) := by
  have : s[0]'hsz = c := by
    have h2 : s.data.toList[0]'(by rw [h]; simp) = c := by simp [h]
    rw [← h2]; rfl
  rw [this]
theorem Parse_short (s : ByteArray) (w : World) (h : s.data.toList = [] ∨ ∃ c t, s.data.toList = c :: t ∧ ¬ (48 ≤ c.toNat ∧ c.toNat ≤ 55)) :
    Calls Tryz.prog 79 #[.string s] w fun e w' => e = .returned (.tuple #[labV 0 0, errVal 2]) ∧ Below w.heap.size w w' := by
  rw [errVal_pos (by decide)]
  unfold labV
  by_cases h0 : s.size = 0
  · have hsz : s.data.toList = [] := by
      have : s.data.toList.length = 0 := by simpa using h0
      exact List.length_eq_zero_iff.1 this
    have hz : s = ⟨#[]⟩ := by
      cases s with
      | mk d => congr; exact Array.toList_inj.1 hsz
    subst hz
    clear h hsz h0
    go_enter Tryz.func79, Tryz.ntmps79
    go_wp2
    exact bodyPost_ret (v := .tuple #[.agg #[.int .i64 0, .int .i64 0], .iface 63 (.int .i64 2)]) (by simp [results, Tryz.results79, go_sem]) rfl ⟨rfl, (Below.refl _ _).alloc (Nat.le_refl _) _⟩
  · obtain ⟨c, t, hl, hc⟩ : ∃ c t, s.data.toList = c :: t ∧ ¬ (48 ≤ c.toNat ∧ c.toNat ≤ 55) := by
      rcases h with h | h
      · exact absurd (by have := congrArg List.length h; simpa using this) h0
      · exact h
    have hsz : 0 < s.size := by omega
    have e0 := first_byte hl hsz
    have hne : s.toList.isEmpty = false := by rw [Lib.toList_data, hl]; rfl
    clear h hl h0
    by_cases h1 : c.toNat < 48
    · have g1 : decide ((c.toNat : Int) < 48) = true := by simp; omega
      clear h1 hc
      go_enter Tryz.func79, Tryz.ntmps79
      go_wp2
      exact bodyPost_ret (v := .tuple #[.agg #[.int .i64 0, .int .i64 0], .iface 63 (.int .i64 2)]) (by simp [results, Tryz.results79, go_sem]) rfl ⟨rfl, (Below.refl _ _).alloc (Nat.le_refl _) _⟩
    · have g1 : decide ((c.toNat : Int) < 48) = false := by simp; omega
      have g2 : decide ((c.toNat : Int) > 55) = true := by simp; omega
      clear h1 hc
      go_enter Tryz.func79, Tryz.ntmps79
      go_wp2
      exact bodyPost_ret (v := .tuple #[.agg #[.int .i64 0, .int .i64 0], .iface 63 (.int .i64 2)]) (by simp [results, Tryz.results79, go_sem]) rfl ⟨rfl, (Below.refl _ _).alloc (Nat.le_refl _) _⟩
/-- What Parse answers of letters. -/
def letRes (v : Nat) (o : Option Nat) : Value := match o with
  | some s => .tuple #[labV v s, .nilIface]
  | none => .tuple #[labV 0 0, errVal 2]
set_option maxHeartbeats 2000000 in
theorem Parse_long (s : ByteArray) (c : UInt8) (t : List UInt8) (w : World) (hl : s.data.toList = c :: t) (hc : 48 ≤ c.toNat ∧ c.toNat ≤ 55) (hsm : s.size < 2 ^ 48) :
    Calls Tryz.prog 79 #[.string s] w fun e w' => e = .returned (letRes (c.toNat - 48) (pstep t 0 0)) ∧ Below w.heap.size w w' := by
  have hlen : s.size = t.length + 1 := by have := congrArg List.length hl; simpa using this
  have hsz : 0 < s.size := by omega
  have e0 := first_byte hl hsz
  have hne : s.toList.isEmpty = false := by rw [Lib.toList_data, hl]; rfl
  have g1 : decide ((c.toNat : Int) < 48) = false := by simp; omega
  have g2 : decide ((c.toNat : Int) > 55) = false := by simp; omega
  have hcv := fun (W : World) (X : ByteArray) => Lib.run_convert_string_bytes (P := Tryz.prog) W 9 80 5 X Tryz.underlying9 Tryz.underlying80 Tryz.underlying5
  obtain ⟨v, hv⟩ : ∃ v : Nat, (c.toNat : Int) - 48 = (v : Int) := ⟨c.toNat - 48, by omega⟩
  have hv' : c.toNat - 48 = v := by omega
  rw [hv']
  have hv8 : v ≤ 7 := by omega
  have hX : (s.extract 1 s.size).data.toList = t := by simp [ByteArray.extract, hl, ByteArray.copySlice, hlen]
  have hXs : (s.extract 1 s.size).size = t.length := by have := congrArg List.length hX; simpa using this
  have HX := Lib.hid hX
  have Hl := Lib.hid hl
  have Hlen := Lib.hid hlen
  clear hl hX hv' hlen
  go_enter Tryz.func79, Tryz.ntmps79
  go_wp2
  have hW2 : Below w.heap.size w ((w.alloc (.cells #[.int .i64 0, .int .i64 0] 144)).alloc (.cells #[.int .i64 v, .int .i64 0] 144)) := ((Below.refl _ w).alloc (Nat.le_refl _) _).alloc (by simp) _
  have hr2 : BoxN ((w.alloc (.cells #[.int .i64 0, .int .i64 0] 144)).alloc (.cells #[.int .i64 v, .int .i64 0] 144)) w.heap.size 144 #[.int .i64 0, .int .i64 0] := (BoxN.new w _ _).alloc _
  have hl2 : BoxN ((w.alloc (.cells #[.int .i64 0, .int .i64 0] 144)).alloc (.cells #[.int .i64 v, .int .i64 0] 144)) (w.heap.size + 1) 144 #[.int .i64 v, .int .i64 0] := by
    have := BoxN.new (w.alloc (.cells #[.int .i64 0, .int .i64 0] 144)) 144 #[.int .i64 v, .int .i64 0]
    simpa using this
  have hs2 : ((w.alloc (.cells #[.int .i64 0, .int .i64 0] 144)).alloc (.cells #[.int .i64 v, .int .i64 0] 144)).heap.size = w.heap.size + 1 + 1 := by simp
  generalize (w.alloc (.cells #[.int .i64 0, .int .i64 0] 144)).alloc (.cells #[.int .i64 v, .int .i64 0] 144) = W2 at *
  have hBX := below_bytes W2 5 (s.extract 1 s.size)
  have hby : Hid (∀ j (c' : UInt8), t[j]? = some c' → (Lib.bytesWorld W2 5 (s.extract 1 s.size)).cell? ⟨w.heap.size + 1 + 1, j, none⟩ = some (.int .u8 c'.toNat)) := fun j c' hj => by
    have hjl : j < t.length := (List.getElem?_eq_some_iff.1 hj).1
    have := Lib.bytesWorld_cell W2 5 (s.extract 1 s.size) j (by rw [hXs]; exact hjl)
    rw [HX.out, hs2] at this
    rw [this, List.getD, hj]; rfl
  have hrX := hr2.all hBX
  have hlX := hl2.all hBX
  have hbX := hW2.trans (hBX.mono hW2.size)
  have hszX := hBX.size
  generalize Lib.bytesWorld W2 5 (s.extract 1 s.size) = X at *
  generalize grownCap W2 t.length 0 5 = cp at *
  rw [hs2] at hszX
  have hnb0 : t.length < 2 ^ 60 := by have := Hlen.out; omega
  clear hBX hr2 hl2 hW2 hcv hXs hsm hsz e0 hs2 g1 g2 hne hc hv
  obtain ⟨n, hn⟩ : ∃ n, t.length = n := ⟨_, rfl⟩
  rw [hn] at hnb0 ⊢
  have Hn := Lib.hid hn
  clear hn
  obtain ⟨rb, hrb⟩ : ∃ b, w.heap.size = b := ⟨_, rfl⟩
  obtain ⟨lb, hlb⟩ : ∃ b, w.heap.size + 1 = b := ⟨_, rfl⟩
  obtain ⟨bb, hbb⟩ : ∃ b, w.heap.size + 1 + 1 = b := ⟨_, rfl⟩
  have hrl : rb ≠ lb := by omega
  have hlr : lb ≠ rb := by omega
  have hbl1 : bb ≠ lb := by omega
  have hbl2 : bb ≠ rb := by omega
  have hwr : w.heap.size ≤ rb := by omega
  have hwl : w.heap.size ≤ lb := by omega
  have Hw := Lib.hid hwr
  have Hl2 := Lib.hid hwl
  rw [hbb] at hby ⊢
  rw [hlb] at hlX ⊢
  have hrX2 : BoxN X rb 144 #[.int .i64 0, .int .i64 0] := hrb ▸ hrX
  rw [show (Value.pointer (some ⟨w.heap.size, 0, none⟩)) = Value.pointer (some ⟨rb, 0, none⟩) by rw [hrb]]
  clear hrb hlb hbb hszX hrX hwr hwl
  go_loopw [5, 32] (fun last i wr => ∃ (k set lo : Nat) (m : Int), k ≤ n ∧ i = .int .i64 k ∧ last = .int .i64 m ∧ Hid (m + 1 = (lo : Int)) ∧ Hid (pstep t 0 0 = pstep (t.drop k) set lo) ∧ set < 2 ^ 8 ∧ lo ≤ 8 ∧ BoxN wr lb 144 #[.int .i64 v, .int .i64 set] ∧ BoxN wr rb 144 #[.int .i64 0, .int .i64 0] ∧ Below w.heap.size w wr ∧ Hid (∀ j (c' : UInt8), t[j]? = some c' → wr.cell? ⟨bb, j, none⟩ = some (.int .u8 c'.toNat))) (fun _ i _ => n - (intOf i).toNat)
  case atStart => exact ⟨0, 0, 0, -1, Nat.zero_le _, rfl, rfl, rfl, rfl, by decide, by decide, hlX, hrX2, hbX, hby⟩
  case round =>
    clear hlX hrX2 hbX hby
    obtain ⟨k, set, lo, m, hk, rfl, rfl, hm, hps, hset, hlo, hlW, hrW, hbW, hby⟩ := hrel
    have cl0 : wr.cell? ⟨lb, 0, none⟩ = some (.int .i64 v) := hlW.cell rfl
    have cl1 : wr.cell? ⟨lb, 1, none⟩ = some (.int .i64 set) := hlW.cell rfl
    have cr0 : wr.cell? ⟨rb, 0, none⟩ = some (.int .i64 0) := hrW.cell rfl
    have cr1 : wr.cell? ⟨rb, 1, none⟩ = some (.int .i64 0) := hrW.cell rfl
    have fl1 := hlW.free 1
    have fr0 := hrW.free 0
    have fr1 := hrW.free 1
    by_cases hlt : k < n
    · obtain ⟨c', hc'⟩ : ∃ c', t[k]? = some c' := ⟨t[k]'(by rw [Hn.out]; exact hlt), List.getElem?_eq_getElem _⟩
      have hcell := hby.out k c' hc'
      have Hdrop := Lib.hid (show t.drop k = c' :: t.drop (k + 1) from by
        have h1 := (List.getElem?_eq_some_iff.1 hc')
        rw [← h1.2]; exact List.drop_eq_getElem_cons h1.1)
      have hc8 : c'.toNat < 256 := c'.toNat_lt
      have Hst := Lib.hid (show pstep (c' :: t.drop (k + 1)) set lo = if 97 + lo ≤ c'.toNat ∧ c'.toNat ≤ 104 then pstep (t.drop (k + 1)) (set ||| 2 ^ (c'.toNat - 97)) (c'.toNat - 97 + 1) else none from rfl)
      clear hc'
      by_cases hin : 97 + lo ≤ c'.toNat ∧ c'.toNat ≤ 104
      · obtain ⟨x, hx⟩ : ∃ x, c'.toNat - 97 = x := ⟨_, rfl⟩
        have hxi : (c'.toNat : Int) - 97 = (x : Int) := by omega
        have hx8 : x < 8 := by omega
        have hxlo : lo ≤ x := by omega
        have hm1 : m + 1 = (lo : Int) := hm.out
        have C1 := Lib.hid (fun V => Within3_is (x : Int) (lo : Int) 7 true V (by simp; omega))
        have hp8 : 2 ^ x < 2 ^ 8 := Nat.pow_lt_pow_right (by decide) hx8
        have hb1 : bits .or .i64 (set : Int) (wrap64 (2 ^ x)) = ((set ||| 2 ^ x : Nat) : Int) := by
          rw [wrap64_pow x (by omega)]; exact bits_or_nat _ _ (by omega) (by omega)
        have hb2 : bits .or .i64 (set : Int) (IntKind.i64.wrap (2 ^ x)) = ((set ||| 2 ^ x : Nat) : Int) := by
          rw [wrap_powL x (by omega)]; exact bits_or_nat _ _ (by omega) (by omega)
        have hset2 : set ||| 2 ^ x < 2 ^ 8 := Nat.or_lt_two_pow hset hp8
        have Hps2 := Lib.hid (show pstep t 0 0 = pstep (t.drop (k + 1)) (set ||| 2 ^ x) (x + 1) by rw [hps.out, Hdrop.out, Hst.out, if_pos hin, hx])
        generalize set ||| 2 ^ x = set2 at *
        clear hin hx hps Hst Hdrop hp8
        have hbyN := Lib.hid (fun (j : Nat) (c'' : UInt8) (hj : t[j]? = some c'') => hby.out j c'' hj)
        clear hby hm
        go_wp2_with (go_at_call 41; with_reducible refine (C1.out _).mono ?_; rintro e w' ⟨rfl, rfl⟩)
        refine wp_region_still_tail 6 (by kernel_rfl) (by kernel_rfl) ?_
        simp only [List.take_succ_cons, List.take_zero, List.drop_succ_cons, List.drop_zero]
        repeat still_step
        refine wpStill_nil ?_
        go_wp2_with fail
        refine ⟨⟨k + 1, set2, x + 1, (x : Int), ?xa, ?xb, rfl, ?xc, Hps2, hset2, ?xe, ?xf, ?xg, ?xh, ?xi⟩, ?xd⟩
        case xa => omega
        case xb => go_num
        case xc => simp [Hid]
        case xe => omega
        case xf => exact hlW.drew.set 1 _
        case xg => exact hrW.drew.other (a := ⟨lb, 1, none⟩) hrl _
        case xh => exact hbW.drew.setCell Hl2.out _
        case xi =>
          intro j c'' hj
          show (wr.setCell ⟨lb, 1, none⟩ (.int .i64 set2)).cell? ⟨bb, j, none⟩ = _
          rw [World.cell?_setCell_other _ _ _ _ (fun e => by first | exact hbl1 (congrArg Addr.block e).symm | exact hbl1 (congrArg Addr.block e))]
          exact hbyN.out j c'' hj
        case xd => simp [intOf]; omega
      · obtain ⟨x, hx⟩ : ∃ x : Int, (c'.toNat : Int) - 97 = x := ⟨_, rfl⟩
        have hm1 : m + 1 = (lo : Int) := hm.out
        have C1 := Lib.hid (fun V => Within3_is x (lo : Int) 7 false V (by simp; omega))
        have Hno := Lib.hid (show pstep t 0 0 = none by rw [hps.out, Hdrop.out, Hst.out, if_neg hin])
        clear hin hps Hst Hdrop hby hm
        go_wp2_with (go_at_call 41; with_reducible refine (C1.out _).mono ?_; rintro e w' ⟨rfl, rfl⟩)
        exact bodyPost_ret (v := .tuple #[.agg #[.int .i64 0, .int .i64 0], .iface 63 (.int .i64 2)]) (by simp [results, Tryz.results79, go_sem, cr0, cr1]) rfl ⟨by rw [Hno.out]; rfl, (hbW.setCell Hw.out _).setCell Hw.out _⟩
    · obtain rfl : k = n := by omega
      have Hyes := Lib.hid (show pstep t 0 0 = some set by rw [hps.out, List.drop_eq_nil_of_le (by rw [Hn.out]; exact Nat.le_refl _)]; rfl)
      clear hps hby hm
      go_wp2_with fail
      exact bodyPost_ret (v := .tuple #[.agg #[.int .i64 v, .int .i64 set], .nilIface]) (by simp [results, Tryz.results79, go_sem, cr0, cr1]) rfl ⟨by rw [Hyes.out]; rfl, (hbW.setCell Hw.out _).setCell Hw.out _⟩
theorem Parse_any (s : ByteArray) (w : World) (hsm : s.size < 2 ^ 48) :
    Calls Tryz.prog 79 #[.string s] w fun e w' => e = .returned (parseRes s.data.toList) ∧ Below w.heap.size w w' := by
  unfold parseRes
  cases hl : s.data.toList with
  | nil => exact Parse_short s w (.inl hl)
  | cons c t =>
    rw [parseV_cons]
    by_cases hc : 48 ≤ c.toNat ∧ c.toNat ≤ 55
    · rw [if_pos hc]
      refine (Parse_long s c t w hl hc hsm).mono fun e w' ⟨he, hb⟩ => ⟨he.trans ?_, hb⟩
      cases pstep t 0 0 <;> rfl
    · rw [if_neg hc]
      exact Parse_short s w (.inr ⟨c, t, hl, hc⟩)
end Go.Proofs.YtanlmfnhlldkeaaGreatDoor
