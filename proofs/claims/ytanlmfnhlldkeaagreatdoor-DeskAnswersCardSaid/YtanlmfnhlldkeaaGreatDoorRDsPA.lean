/-
  What the reference's Parse tells is what label.Parse tells: plain laws.
  Contract: quietwingref1.Written.
  Contract: quietwingref1.With.
  Contract: quietwingref1.Parse.
  Contract: quietwingref5.Digits.
  Contracts: quietwingref5.called, of, files, add.
-/
import Derived.Test.YtanlmfnhlldkeaaGreatDoorDkNA
import Derived.Test.YtanlmfnhlldkeaaGreatDoorBaseA
import Derived.Test.YtanlmfnhlldkeaaGreatDoorRowsA
import Derived.Laws.ResultCell
import Derived.Laws.Rows
import Derived.BigQuiet
import Derived.Lib.Strings
import Derived.Test.YtanlmfnhlldkeaaGreatDoorDkB
namespace Go.Proofs.YtanlmfnhlldkeaaGreatDoor
set_option linter.unusedVariables false

def addLet (c : UInt8) (m : Nat) : Nat := if 97 ≤ c.toNat ∧ c.toNat ≤ 104 then m ||| 2 ^ (c.toNat - 97) else m
/-- The letters of a text as a set, whatever their order. -/
def letSet : List UInt8 → Nat → Nat
  | [], m => m
  | c :: t, m => letSet t (addLet c m)
theorem addLet_lt {c : UInt8} {m : Nat} (h : m < 2 ^ 8) : addLet c m < 2 ^ 8 := by
  unfold addLet
  split
  · exact Nat.or_lt_two_pow h (Nat.pow_lt_pow_right (by decide) (by omega))
  · exact h
theorem letSet_lt : ∀ (t : List UInt8) {m : Nat}, m < 2 ^ 8 → letSet t m < 2 ^ 8
  | [], _, h => h
  | c :: t, _, h => letSet_lt t (addLet_lt h)
theorem letSet_append : ∀ (a b : List UInt8) (m : Nat), letSet (a ++ b) m = letSet b (letSet a m)
  | [], _, _ => rfl
  | c :: a, b, m => letSet_append a b (addLet c m)
theorem letSet_letters : ∀ s, s < 256 → letSet (letters s) 0 = s := by decide +kernel
theorem parse_iff {l : List UInt8} {v m : Nat} : parseV l = some (v, m) ↔ v < 8 ∧ m = letSet l.tail 0 ∧ labText v (letSet l.tail 0) = l := by
  constructor
  · intro h
    obtain ⟨h1, h2, h3⟩ := parseV_sound h
    have h4 : l.tail = letters m := by rw [← h3]; rfl
    have h5 : letSet l.tail 0 = m := by rw [h4, letSet_letters m h2]
    exact ⟨by omega, h5.symm, by rw [h5]; exact h3⟩
  · rintro ⟨h1, rfl, h3⟩
    have h2 : letSet l.tail 0 < 256 := letSet_lt l.tail (by decide)
    have := parseV_text (v := v) (by omega) h2
    rw [h3] at this
    exact this
/-- Too long a text is none. -/
theorem parse_long {l : List UInt8} (h : 10 ≤ l.length) (v m : Nat) (hm : m < 256) : labText v m ≠ l := by
  rintro rfl
  have h1 : (letters m).length ≤ 8 := by
    have : ∀ m, m < 256 → (letters m).length ≤ 8 := by decide +kernel
    exact this m hm
  have h2 : (labText v m).length = (letters m).length + 1 := by unfold labText letters; simp
  omega
end Go.Proofs.YtanlmfnhlldkeaaGreatDoor

namespace Go.Proofs.YtanlmfnhlldkeaaGreatDoor
open Go.RowKit
set_option maxRecDepth 100000
set_option linter.unusedVariables false

/-- The text of a label with the sets below k alone. -/
def wText (v s k : Nat) : List UInt8 := UInt8.ofNat (48 + v) :: ((List.range k).filter fun i => s.testBit i).map fun i => UInt8.ofNat (97 + i)
theorem wText_all {v s : Nat} (hs : s < 2 ^ 8) : wText v s 8 = labText v s := by
  unfold wText labText bitsOf
  rw [show List.range 64 = List.range 8 ++ (List.range 56).map (8 + ·) from by decide, List.filter_append]
  rw [show ((List.range 56).map (8 + ·)).filter (fun i => s.testBit i) = [] from by
    rw [List.filter_eq_nil_iff]
    intro x hx
    obtain ⟨y, _, rfl⟩ := List.mem_map.1 hx
    rw [Nat.testBit_lt_two_pow (Nat.lt_of_lt_of_le hs (Nat.pow_le_pow_right (by decide) (by omega)))]
    decide]
  rw [List.append_nil]
theorem wText_skip {v s k : Nat} (h : s.testBit k = false) : wText v s (k + 1) = wText v s k := by
  unfold wText; rw [List.range_succ, List.filter_append]; simp [h]
theorem wText_add {v s k : Nat} (h : s.testBit k = true) : wText v s (k + 1) = wText v s k ++ [UInt8.ofNat (97 + k)] := by
  unfold wText; rw [List.range_succ, List.filter_append]; simp [h]
theorem wText_len (v s k : Nat) : (wText v s k).length ≤ k + 1 := by
  unfold wText
  rw [List.length_cons, List.length_map]
  have := List.length_filter_le (fun i => s.testBit i) (List.range k)
  rw [List.length_range] at this
  omega
theorem dig_ext {v : Nat} (h : v < 8) : (⟨#[48, 49, 50, 51, 52, 53, 54, 55]⟩ : ByteArray).extract v (v + 1) = ⟨[UInt8.ofNat (48 + v)].toArray⟩ := by
  have : v = 0 ∨ v = 1 ∨ v = 2 ∨ v = 3 ∨ v = 4 ∨ v = 5 ∨ v = 6 ∨ v = 7 := by omega
  rcases this with rfl | rfl | rfl | rfl | rfl | rfl | rfl | rfl <;> rfl
theorem let_ext {v : Nat} (h : v < 8) : (⟨#[97, 98, 99, 100, 101, 102, 103, 104]⟩ : ByteArray).extract v (v + 1) = ⟨[UInt8.ofNat (97 + v)].toArray⟩ := by
  have : v = 0 ∨ v = 1 ∨ v = 2 ∨ v = 3 ∨ v = 4 ∨ v = 5 ∨ v = 6 ∨ v = 7 := by omega
  rcases this with rfl | rfl | rfl | rfl | rfl | rfl | rfl | rfl <;> rfl
set_option maxHeartbeats 4000000 in
theorem RWritten_any (v s : Nat) (w : World) (hv : v < 8) (hs : s < 2 ^ 8) :
    Calls Tryz.prog 127 #[.agg #[.int .i64 v, .int .i64 s]] w fun e w' => e = .returned (.string ⟨(labText v s).toArray⟩) ∧ Below w.heap.size w w' := by
  have hbx := BoxN.new w 144 #[.int .i64 v, .int .i64 s]
  have hb0 := (Below.refl w.heap.size w).alloc (Nat.le_refl _) (.cells #[.int .i64 v, .int .i64 s] 144)
  have y0 := hbx.cell (k := 0) rfl
  have y1 := hbx.cell (k := 1) rfl
  have Hall := Lib.hid (wText_all (v := v) hs)
  rw [← Hall.out]
  clear hbx
  go_enter Tryz.func127, Tryz.ntmps127
  go_wp2_with fail
  go_loopw [3, 4] (fun t i wr => ∃ k : Nat, k ≤ 8 ∧ i = .int .i64 k ∧ t = .string ⟨(wText v s k).toArray⟩ ∧ wr = w.alloc (.cells #[.int .i64 v, .int .i64 s] 144)) (fun _ i _ => 8 - (intOf i).toNat)
  case atStart => exact ⟨0, Nat.zero_le _, rfl, by rw [dig_ext hv]; rfl, rfl⟩
  case round =>
    obtain ⟨k, hk, rfl, rfl, rfl⟩ := hrel
    by_cases hk8 : k < 8
    · cases hbit : s.testBit k with
      | false =>
        have B1 := Lib.hid (fun V => Bit_is s k false V (by omega) (by omega) hbit)
        have Hs := Lib.hid (wText_skip (v := v) hbit)
        clear hbit
        go_wp2_with (go_at_call 128; with_reducible refine (B1.out _).mono ?_; rintro e w' ⟨rfl, rfl⟩)
        refine ⟨⟨k + 1, ?ya, ?yb, ?yc, trivial⟩, ?yd⟩
        case ya => omega
        case yb => go_num
        case yc => rw [Hs.out]
        case yd => simp [intOf]; omega
      | true =>
        have B1 := Lib.hid (fun V => Bit_is s k true V (by omega) (by omega) hbit)
        have Hs := Lib.hid (wText_add (v := v) hbit)
        clear hbit
        have htl : ¬ 9223372036854775807 < (wText v s k).length + (min (k + 1) 8 - k) := by have := wText_len v s k; omega
        generalize wText v s k = txt at *
        go_wp2_with (go_at_call 128; with_reducible refine (B1.out _).mono ?_; rintro e w' ⟨rfl, rfl⟩)
        refine ⟨⟨k + 1, ?ya, ?yb, ?yc, trivial⟩, ?yd⟩
        case ya => omega
        case yb => go_num
        case yc => rw [Hs.out, ← bytes_add, let_ext hk8]
        case yd => simp [intOf]; omega
    · obtain rfl : k = 8 := by omega
      go_wp2_with fail
      go_ret
      exact ⟨rfl, hb0⟩
end Go.Proofs.YtanlmfnhlldkeaaGreatDoor

namespace Go.Proofs.YtanlmfnhlldkeaaGreatDoor
open Go.RowKit
set_option maxHeartbeats 400000 in

set_option maxHeartbeats 400000 in
theorem With_any (s i : Nat) (w : World) (hs : s < 2 ^ 60) (hi : i < 60) :
    Calls Tryz.prog 126 #[.int .i64 s, .int .i64 i] w fun e w' => e = .returned (.int .i64 (s ||| 2 ^ i : Nat)) ∧ w = w' := by
  have hp : 2 ^ i ≤ 2 ^ 59 := Nat.pow_le_pow_right (by decide) (by omega)
  have Hp := Lib.hid (Pow2_any i w hi)
  cases hb : s.testBit i with
  | true =>
    have He := Lib.hid (show s ||| 2 ^ i = s from Nat.eq_of_testBit_eq fun j => by
      rw [tb_or, tb_pow]
      by_cases e : i = j
      · subst e; simp [hb]
      · simp [e])
    have Hb := Lib.hid (Bit_is s i true w (by omega) (by omega) hb)
    generalize s ||| 2 ^ i = t at *
    clear hb
    go_enter Tryz.func126, Tryz.ntmps126
    go_wp2_with (go_at_call 128; refine Hb.out.mono ?_; rintro e w' ⟨rfl, rfl⟩)
    go_ret
    exact ⟨ret_int (by rw [He.out]), rfl⟩
  | false =>
    have He := Lib.hid (add_pow_or s i hb)
    have Hb := Lib.hid (Bit_is s i false w (by omega) (by omega) hb)
    generalize s ||| 2 ^ i = t at *
    generalize 2 ^ i = d at *
    clear hb
    go_enter Tryz.func126, Tryz.ntmps126
    go_wp2_with (first | (go_at_call 128; refine Hb.out.mono ?_; rintro e w' ⟨rfl, rfl⟩) | (go_at_call 124; refine Hp.out.mono ?_; rintro e w' ⟨rfl, rfl⟩))
    go_ret
    exact ⟨ret_int (by have := He.out; omega), rfl⟩
end Go.Proofs.YtanlmfnhlldkeaaGreatDoor

namespace Go.Proofs.YtanlmfnhlldkeaaGreatDoor
open Go.RowKit
set_option maxRecDepth 100000
set_option linter.unusedVariables false

/-- A letter among the first j alone. -/
def addTo (c : UInt8) (m j : Nat) : Nat := if 97 ≤ c.toNat ∧ c.toNat < 97 + j then m ||| 2 ^ (c.toNat - 97) else m
theorem addTo_all (c : UInt8) (m : Nat) : addTo c m 8 = addLet c m := by
  unfold addTo addLet
  by_cases h : 97 ≤ c.toNat ∧ c.toNat ≤ 104
  · rw [if_pos h, if_pos (by omega)]
  · rw [if_neg h, if_neg (by omega)]
theorem addTo_zero (c : UInt8) (m : Nat) : addTo c m 0 = m := by unfold addTo; rw [if_neg (by omega)]
theorem addTo_hit {c : UInt8} {m j : Nat} (h : c.toNat = 97 + j) : addTo c m j = m ∧ addTo c m (j + 1) = m ||| 2 ^ j := by
  unfold addTo
  exact ⟨if_neg (by omega), by rw [if_pos (by omega), h]; simp⟩
theorem addTo_miss {c : UInt8} {m j : Nat} (h : c.toNat ≠ 97 + j) : addTo c m (j + 1) = addTo c m j := by
  unfold addTo
  by_cases h1 : 97 ≤ c.toNat ∧ c.toNat < 97 + j
  · rw [if_pos h1, if_pos (by omega)]
  · rw [if_neg h1, if_neg (by omega)]
theorem addTo_lt {c : UInt8} {m j : Nat} (h : m < 2 ^ 8) (hj : j ≤ 8) : addTo c m j < 2 ^ 8 := by
  unfold addTo
  split
  · exact Nat.or_lt_two_pow h (Nat.pow_lt_pow_right (by decide) (by omega))
  · exact h
def rparseRes (l : List UInt8) : Value := match parseV l with
  | some (v, m) => .tuple #[.agg #[.int .i64 (v : Nat), .int .i64 (m : Nat)], .bool true]
  | none => .tuple #[.agg #[.int .i64 0, .int .i64 0], .bool false]
theorem results_row_tmpP {P : Program} {fn : Func} {p u : Tmp} {ty : TypeId} (h : fn.results = #[.cell p ty, .tmp u]) (tmps : Array Value) (w : World) (g : Nat) (t : TypeId) (cs : Array Value) (fr : Nat × Nat) (d : TypeDesc)
    (hp : tmps.getD p undef = .pointer (some ⟨g, 0, none⟩)) (hg : w.heap[g]? = some (.cells cs t fr))
    (hu : P.underlying ty = some d) (hd : (match d with | .struct _ | .array _ _ => true | _ => false) = true) (hi : (P.info? ty).map (·.size) = some cs.size) :
    (results fn tmps).run P w = .ok (.tuple #[.agg cs, tmps.getD u undef]) w := by
  rw [results_cell_tmp h, hp]
  simp [asAddr, Result.andThen, run_loadVar_row w g t ty cs fr d hg hu hd hi]
theorem rparse_none {l : List UInt8} (h : ∀ v, v < 8 → labText v (letSet l.tail 0) ≠ l) : rparseRes l = .tuple #[.agg #[.int .i64 0, .int .i64 0], .bool false] := by
  unfold rparseRes
  cases hp : parseV l with
  | none => rfl
  | some x =>
    obtain ⟨v, m⟩ := x
    obtain ⟨h1, _, h3⟩ := parse_iff.1 hp
    exact absurd h3 (h v h1)
theorem rparse_some {l : List UInt8} {v : Nat} (hv : v < 8) (h : labText v (letSet l.tail 0) = l) : rparseRes l = .tuple #[.agg #[.int .i64 (v : Nat), .int .i64 (letSet l.tail 0 : Nat)], .bool true] := by
  unfold rparseRes
  rw [parse_iff.2 ⟨hv, rfl, h⟩]
theorem belowDR {B : Nat} {w w' : World} (h : Below B w w') (n : Nat) : Below B w (w'.drewN n) := ⟨h.os, h.tape, h.output, h.size, h.block⟩
theorem tail_take {s : ByteArray} {l : List UInt8} (hl : s.data.toList = l) {q : Nat} (h : q + 1 < s.size) {c : UInt8} (hc : s[q + 1]'h = c) : letSet (l.tail.take (q + 1)) 0 = addLet c (letSet (l.tail.take q) 0) := by
  have hlen : l.length = s.size := by rw [← hl]; rfl
  have h1 : l.tail[q]? = some c := by
    rw [List.getElem?_tail, ← hl, ← hc, List.getElem?_eq_getElem (by rw [hl, hlen]; exact h)]; rfl
  rw [List.take_add_one, h1, letSet_append]; rfl
theorem let_at {j : Nat} (h : j < 8) : ((⟨#[97, 98, 99, 100, 101, 102, 103, 104]⟩ : ByteArray)[j]'h).toNat = 97 + j := by
  have : j = 0 ∨ j = 1 ∨ j = 2 ∨ j = 3 ∨ j = 4 ∨ j = 5 ∨ j = 6 ∨ j = 7 := by omega
  rcases this with rfl | rfl | rfl | rfl | rfl | rfl | rfl | rfl <;> rfl
set_option maxHeartbeats 8000000 in
theorem RParse_any (s : ByteArray) (w : World) (hsm : s.size < 2 ^ 48) :
    Calls Tryz.prog 95 #[.string s] w fun e w' => e = .returned (rparseRes s.data.toList) ∧ Below w.heap.size w w' := by
  obtain ⟨l, hl⟩ : ∃ l, s.data.toList = l := ⟨_, rfl⟩
  have hln : l.length = s.size := by rw [← hl]; rfl
  rw [hl]
  have Hl := Lib.hid hl
  have hbx := BoxN.new w 144 #[.int .i64 0, .int .i64 0]
  have hb0 := (Below.refl w.heap.size w).alloc (Nat.le_refl _) (.cells #[.int .i64 0, .int .i64 0] 144)
  have Hln := Lib.hid hln
  clear hl hln
  go_enter Tryz.func95, Tryz.ntmps95
  go_wp2_with fail
  generalize w.alloc (.cells #[.int .i64 0, .int .i64 0] 144) = w1 at *
  go_loopw [4] (fun i wr => ∃ k : Nat, k ≤ 8 ∧ i = .int .i64 k ∧ BoxN wr w.heap.size 144 #[.int .i64 0, .int .i64 0] ∧ Hid (∀ v, v < k → labText v (letSet l.tail 0) ≠ l) ∧ Below w.heap.size w wr) (fun i _ => 8 - (intOf i).toNat)
  case atStart => exact ⟨0, Nat.zero_le _, rfl, hbx, Lib.hid (fun v hv => by omega), hb0⟩
  case round =>
    clear hbx hb0
    obtain ⟨k, hk, rfl, hbx, hno, hbr⟩ := hrel
    by_cases hk8 : k < 8
    · have hbx2 := hbx.alloc (.cells #[.int .i64 k, .int .i64 0] 144)
      have hbl := BoxN.new wr 144 #[.int .i64 k, .int .i64 0]
      have hb2 := hbr.alloc hbr.size (.cells #[.int .i64 k, .int .i64 0] 144)
      have hg := hbr.size
      have hgt := hbx.lt
      have hdk : decide ((k : Int) < 8) = true := decide_eq_true (by omega)
      go_wp2_with fail
      generalize hgg : wr.heap.size = g at *
      generalize wr.alloc (.cells #[.int .i64 k, .int .i64 0] 144) = w3 at *
      clear hgg
      go_loopw [6] (fun i wo => ∃ q m : Nat, i = .int .i64 (q + 1 : Nat) ∧ BoxN wo w.heap.size 144 #[.int .i64 0, .int .i64 0] ∧ BoxN wo g 144 #[.int .i64 k, .int .i64 m] ∧ m < 2 ^ 8 ∧ Hid (m = letSet (l.tail.take q) 0) ∧ (q = 0 ∨ q + 1 ≤ s.size ∧ s.size < 10) ∧ Below w.heap.size w wo) (fun i _ => s.size - (intOf i).toNat)
      case atStart => exact ⟨0, 0, rfl, hbx2, hbl, by decide, Lib.hid rfl, .inl rfl, hb2⟩
      case round =>
        clear hbx2 hbl hb2 hbx hbr
        obtain ⟨q, m, rfl, hbx, hbl, hm, hms, hq, hbr⟩ := hrel
        by_cases hin : q + 1 < s.size ∧ s.size < 10
        · obtain ⟨hin1, hin2⟩ := hin
          have hdec : decide ((s.size : Int) < 10) = true := decide_eq_true (by omega)
          obtain ⟨cc, hcc⟩ : ∃ cc : UInt8, s[q + 1]'hin1 = cc := ⟨_, rfl⟩
          go_wp2_with fail
          go_loopw [7] (fun i wi => ∃ j : Nat, j ≤ 8 ∧ i = .int .i64 j ∧ BoxN wi w.heap.size 144 #[.int .i64 0, .int .i64 0] ∧ BoxN wi g 144 #[.int .i64 k, .int .i64 (addTo cc m j : Nat)] ∧ Below w.heap.size w wi) (fun i _ => 8 - (intOf i).toNat)
          case atStart => exact ⟨0, Nat.zero_le _, rfl, hbx, by rw [addTo_zero]; exact hbl, hbr⟩
          case round =>
            clear hbx hbl hbr
            obtain ⟨j, hj, rfl, hbx, hbl, hbr⟩ := hrel
            by_cases hj8 : j < 8
            · have y1 := hbl.cell (k := 1) rfl
              have f1 := hbl.free 1
              obtain ⟨lt, hlt⟩ : ∃ lt : UInt8, (⟨#[97, 98, 99, 100, 101, 102, 103, 104]⟩ : ByteArray)[j]'hj8 = lt := ⟨_, rfl⟩
              have Hlt := Lib.hid (show lt.toNat = 97 + j by rw [← hlt]; exact let_at hj8)
              have hmj := addTo_lt (c := cc) (m := m) (j := j) hm hj
              by_cases hit : cc.toNat = lt.toNat
              · have d1 : ((cc.toNat : Int) == (lt.toNat : Int)) = true := by rw [hit]; simp
                have hA := addTo_hit (c := cc) (m := m) (j := j) (by rw [hit]; exact Hlt.out)
                have HA := Lib.hid (show addTo cc m (j + 1) = addTo cc m j ||| 2 ^ j by rw [hA.2, hA.1])
                have HW := Lib.hid (fun V => With_any (addTo cc m j) j V (by omega) (by omega))
                have Hbx := Lib.hid hbx
                have Hbl := Lib.hid hbl
                clear hA hbx hbl hit
                generalize addTo cc m j = am at *
                go_wp2_with fail
                go_quiet (fail)
                go_wp2_with (go_at_call 126; with_reducible refine (HW.out _).mono ?_; rintro e w' ⟨rfl, rfl⟩)
                refine ⟨⟨j + 1, ?ya, ?yb, ?yx, ?yc, ?yw⟩, ?yd⟩
                case ya => omega
                case yb => go_num
                case yx => exact (Hbx.out.drewN nq).other (a := ⟨g, 1, none⟩) (by show w.heap.size ≠ g; omega) _
                case yc => rw [HA.out]; exact (Hbl.out.drewN nq).set 1 _
                case yw => exact (belowDR hbr nq).setCell (p := ⟨g, 1, none⟩) hg _
                case yd => simp [intOf]; omega
              · have d1 : ((cc.toNat : Int) == (lt.toNat : Int)) = false := beq_eq_false_iff_ne.2 (fun e => hit (Int.ofNat.inj e))
                have HA := Lib.hid (addTo_miss (c := cc) (m := m) (j := j) (by rw [← Hlt.out]; exact hit))
                have Hbx := Lib.hid hbx
                have Hbl := Lib.hid hbl
                clear hbx hbl hit
                go_wp2_with fail
                go_quiet (fail)
                go_wp2_with fail
                refine ⟨⟨j + 1, ?ya, ?yb, Hbx.out.drewN _, ?yc, belowDR hbr _⟩, ?yd⟩
                case ya => omega
                case yb => go_num
                case yc => rw [HA.out]; exact Hbl.out.drewN _
                case yd => simp [intOf]; omega
            · obtain rfl : j = 8 := by omega
              have hm2 : addTo cc m 8 < 2 ^ 8 := addTo_lt hm (Nat.le_refl _)
              have Hm2 := Lib.hid (show addTo cc m 8 = letSet (l.tail.take (q + 1)) 0 by rw [addTo_all, hms.out]; exact (tail_take Hl.out hin1 hcc).symm)
              generalize addTo cc m 8 = m2 at *
              go_wp2_with fail
              refine ⟨⟨q + 1, m2, ?ya, hbx, hbl, hm2, Hm2, .inr ⟨by omega, hin2⟩, hbr⟩, ?yd⟩
              case ya => go_num
              case yd => simp [intOf]; omega
        · have hfull : m = letSet l.tail 0 ∨ 10 ≤ s.size ∧ m = 0 := by
            rcases Nat.lt_or_ge s.size 10 with h10 | h10
            · refine .inl ?_
              rw [hms.out, List.take_of_length_le (by rw [List.length_tail, Hln.out]; omega)]
            · refine .inr ⟨h10, ?_⟩
              have hq0 : q = 0 := by omega
              rw [hms.out, hq0]; rfl
          have Heq := Lib.hid (show labText k m = l ↔ labText k (letSet l.tail 0) = l by
            rcases hfull with h | ⟨h, h0⟩
            · rw [h]
            · exact iff_of_false (parse_long (by rw [Hln.out]; exact h) _ _ hm) (parse_long (by rw [Hln.out]; exact h) _ _ (letSet_lt _ (by decide))))
          have Hm := Lib.hid (show labText k m = l → m = letSet l.tail 0 from fun he => by
            rcases hfull with h | ⟨h, h0⟩
            · exact h
            · exact absurd he (parse_long (by rw [Hln.out]; exact h) _ _ hm))
          have HW := Lib.hid (fun V => RWritten_any k m V hk8 hm)
          have x0 := hbl.cell (k := 0) rfl
          have x1 := hbl.cell (k := 1) rfl
          have Hbx := Lib.hid hbx
          have Hbl := Lib.hid hbl
          have hstop : decide ((s.size : Int) < 10) = false ∨ ¬ q + 1 < s.size := by
            rcases Nat.lt_or_ge s.size 10 with h | h
            · exact .inr (fun h2 => hin ⟨h2, h⟩)
            · exact .inl (decide_eq_false (by omega))
          by_cases he : labText k m = l
          · have HW2 := Lib.hid (show ∀ V, Calls Tryz.prog 127 #[.agg #[.int .i64 k, .int .i64 m]] V (fun e w' => e = .returned (.string s) ∧ Below V.heap.size V w') from fun V => (HW.out V).mono fun e w' h => ⟨by rw [h.1, he, ← Hl.out], h.2⟩)
            have Hres := Lib.hid (show rparseRes l = .tuple #[.agg #[.int .i64 (k : Nat), .int .i64 (m : Nat)], .bool true] by rw [rparse_some hk8 (Heq.out.1 he), ← Hm.out he])
            have hbr' := Lib.hid hbr
            clear hfull hms hin hbx hbl HW Heq Hm he
            rcases hstop with hd | hd
            all_goals
              go_wp2_with (go_at_call 127; with_reducible refine (HW2.out _).mono ?_; rintro e w5 ⟨rfl, hb5⟩; have hbx5 := Hbx.out.all hb5; have hbl5 := Hbl.out.all hb5; have z0 := hbl5.cell (k := 0) rfl; have z1 := hbl5.cell (k := 1) rfl; have y0 := hbx5.cell (k := 0) rfl; have y1 := hbx5.cell (k := 1) rfl; have f0 := hbx5.free 0; have f1 := hbx5.free 1)
            all_goals
              refine bodyPost_ret (results_row_tmpP rfl _ _ w.heap.size 144 #[.int .i64 k, .int .i64 m] (0, 0) _ rfl ((hbx5.set 0 (.int .i64 k)).set 1 (.int .i64 m)) Tryz.underlying144 rfl (by kernel_rfl)) rfl ?_
              exact ⟨by rw [Hres.out]; rfl, ((hbr'.out.trans (hb5.mono hbr'.out.size)).setCell (p := ⟨w.heap.size, 0, none⟩) (Nat.le_refl _) _).setCell (p := ⟨w.heap.size, 1, none⟩) (Nat.le_refl _) _⟩
          · obtain ⟨t, ht⟩ : ∃ t : ByteArray, (⟨(labText k m).toArray⟩ : ByteArray) = t := ⟨_, rfl⟩
            have hts : t ≠ s := fun e => he (by rw [← Hl.out, ← e, ← ht])
            have d1 : (t.toList == s.toList) = false := beq_eq_false_iff_ne.2 (fun e => hts (by rw [Lib.toList_data, Lib.toList_data] at e; exact ByteArray.ext (Array.toList_inj.1 e)))
            have HW2 := Lib.hid (show ∀ V, Calls Tryz.prog 127 #[.agg #[.int .i64 k, .int .i64 m]] V (fun e w' => e = .returned (.string t) ∧ Below V.heap.size V w') from fun V => (HW.out V).mono fun e w' h => ⟨by rw [h.1, ht], h.2⟩)
            have Hno2 := Lib.hid (show ∀ v, v < k + 1 → labText v (letSet l.tail 0) ≠ l from fun v hv => by
              rcases Nat.lt_or_ge v k with h | h
              · exact hno.out v h
              · obtain rfl : v = k := by omega
                exact fun e => he (Heq.out.2 e))
            have hbr' := Lib.hid hbr
            clear hfull hms hin hbx hbl HW Heq Hm he ht
            rcases hstop with hd | hd
            all_goals
              go_wp2_with (go_at_call 127; with_reducible refine (HW2.out _).mono ?_; rintro e w5 ⟨rfl, hb5⟩)
            all_goals
              refine ⟨⟨k + 1, ?ya, ?yb, Hbx.out.all hb5, Hno2, hbr'.out.trans (hb5.mono hbr'.out.size)⟩, ?yd⟩
              case ya => omega
              case yb => go_num
              case yd => simp [intOf]; omega
    · obtain rfl : k = 8 := by omega
      have x0 := hbx.cell (k := 0) rfl
      have x1 := hbx.cell (k := 1) rfl
      have f0 := hbx.free 0
      have f1 := hbx.free 1
      have hR := (hbx.set 0 (.int .i64 0)).set 1 (.int .i64 0)
      have hbe := (hbr.setCell (p := ⟨w.heap.size, 0, none⟩) (Nat.le_refl _) (.int .i64 0)).setCell (p := ⟨w.heap.size, 1, none⟩) (Nat.le_refl _) (.int .i64 0)
      have Hres := Lib.hid (rparse_none hno.out)
      go_wp2_with fail
      refine bodyPost_ret (results_row_tmpP rfl _ _ w.heap.size 144 #[.int .i64 0, .int .i64 0] (0, 0) _ rfl hR Tryz.underlying144 rfl (by kernel_rfl)) rfl ?_
      exact ⟨by rw [Hres.out]; rfl, hbe⟩
end Go.Proofs.YtanlmfnhlldkeaaGreatDoor

namespace Go.Proofs.YtanlmfnhlldkeaaGreatDoor
open Go.RowKit
set_option maxRecDepth 100000
set_option linter.unusedVariables false

set_option maxHeartbeats 4000000 in
theorem Digits_any (w : World) (n : Nat) (hn : n ≤ 9223372036854775807) : Calls Tryz.prog 36 #[.int .i64 n] w fun e w' => e = .returned (.string ⟨(Lib.itoa n).toArray⟩) ∧ w = w' := by
  induction n using Nat.strongRecOn with
  | ind n ih =>
    by_cases h10 : n < 10
    · have he := digit_ext h10
      have Hi := Lib.hid (itoa_small h10)
      have d1 : decide ((n : Int) < 10) = true := decide_eq_true (by omega)
      rw [Hi.out]
      clear ih
      go_enter Tryz.func36, Tryz.ntmps36
      go_wp2_with fail
      go_ret
      exact ⟨by show Ending.returned (Value.string ⟨#[48 + UInt8.ofNat n]⟩) = _; simp, rfl⟩
    · have d1 : decide ((n : Int) < 10) = false := decide_eq_false (by omega)
      have Hi := Lib.hid (itoa_more h10)
      have C1 := Lib.hid (ih (n / 10) (by omega) (by omega))
      have C2 := Lib.hid (ih (n % 10) (by omega) (by omega))
      have l1 := Lib.itoa_length_le ((n / 10 : Nat) : Int) (by omega) (by omega)
      have l2 := Lib.itoa_length_le ((n % 10 : Nat) : Int) (by omega) (by omega)
      have q1 : (n : Int).tdiv 10 = ((n / 10 : Nat) : Int) := by rw [Int.tdiv_eq_ediv_of_nonneg (by omega)]; rfl
      have q2 : (n : Int).tmod 10 = ((n % 10 : Nat) : Int) := by rw [Int.tmod_eq_emod_of_nonneg (by omega)]; rfl
      have hx1 : n / 10 ≤ 9223372036854775807 := by omega
      have hy1 : n % 10 ≤ 9223372036854775807 := by omega
      rw [Hi.out]
      clear ih Hi
      generalize n / 10 = x at *
      generalize n % 10 = y at *
      generalize Lib.itoa (x : Int) = t1 at *
      generalize Lib.itoa (y : Int) = t2 at *
      have hl : ¬ 9223372036854775807 < t1.length + t2.length := by omega
      go_enter Tryz.func36, Tryz.ntmps36
      go_wp2_with fail
      with_reducible refine C1.out.mono ?_
      rintro e w' ⟨rfl, rfl⟩
      go_wp2_with fail
      with_reducible refine C2.out.mono ?_
      rintro e w' ⟨rfl, rfl⟩
      go_wp2_with fail
      go_ret
      exact ⟨by rw [← bytes_add]; rfl, rfl⟩
end Go.Proofs.YtanlmfnhlldkeaaGreatDoor

namespace Go.Proofs.YtanlmfnhlldkeaaGreatDoor
open Go.RowKit
set_option maxRecDepth 100000
set_option linter.unusedVariables false

theorem RCalled_any (k : Nat) (w : World) : Calls Tryz.prog 64 #[.int .i64 k] w fun e w' => e = .returned (.string ⟨(toldE k).toArray⟩) ∧ w = w' := by
  by_cases h0 : k = 0
  · subst h0
    go_enter Tryz.func64, Tryz.ntmps64
    go_wp2_with fail
    go_ret
    exact ⟨rfl, rfl⟩
  · have d0 : ((k : Int) == 0) = false := by simp; omega
    have HE := Lib.hid (ErrName_any k w)
    rw [show toldE k = nameE k from if_neg h0]
    clear h0
    go_enter Tryz.func64, Tryz.ntmps64
    go_wp2_with fail
    refine HE.out.mono ?_
    rintro e w' ⟨rfl, rfl⟩
    go_wp2_with fail
    go_ret
    exact ⟨rfl, rfl⟩
theorem ROf_any {w : World} {l : List Nat} {A : Option Addr} {n c : Nat} (hA : IntsAt w A (castL l)) (hn : l.length = n) (i : Nat) (hn2 : n ≤ 1000000) :
    Calls Tryz.prog 97 #[.slice A n c, .int .i64 i] w fun e w' => e = .returned (.int .i64 (told l (i : Int))) ∧ w = w' := by
  by_cases h : i < n
  · obtain ⟨g, off, x, rfl, hx, hc⟩ := hA.at_ (k := i) (by rw [length_castL]; omega)
    have ht : (told l (i : Int) : Int) = x := by
      have h2 := hx.out
      unfold castL at h2
      rw [List.getElem?_map, List.getElem?_eq_getElem (by omega)] at h2
      injection h2 with h2
      unfold told
      rw [if_pos (by omega)]
      unfold row
      rw [Int.toNat_natCast, List.getElem?_eq_getElem (by omega)]
      exact h2
    rw [ht]
    have di : decide ((i : Int) < (n : Int)) = true := by simp; omega
    have hi : (i : Int) < (n : Int) := by omega
    clear ht hx hA
    go_enter Tryz.func97, Tryz.ntmps97
    go_wp2_with fail
    go_ret
    exact ⟨rfl, rfl⟩
  · have ht : told l (i : Int) = 0 := by unfold told; rw [if_neg (by omega)]
    rw [ht]
    have di : decide ((i : Int) < (n : Int)) = false := by simp; omega
    clear ht hA
    go_enter Tryz.func97, Tryz.ntmps97
    go_wp2_with fail
    go_ret
    exact ⟨rfl, rfl⟩
def bitsTo (s k : Nat) : List Nat := (List.range k).filter fun i => s.testBit i
theorem bitsTo_succ (s k : Nat) : bitsTo s (k + 1) = bitsTo s k ++ if s.testBit k = true then [k] else [] := by
  unfold bitsTo
  rw [List.range_succ, List.filter_append]
  congr 1
  rw [List.filter_cons]
  split <;> rfl
theorem bitsTo_past {s : Nat} (hs : s < 256) : ∀ m, bitsTo s (8 + m) = bitsTo s 8
  | 0 => rfl
  | m + 1 => by
    rw [← Nat.add_assoc, bitsTo_succ, bitsTo_past hs m, if_neg, List.append_nil]
    rw [Nat.testBit_lt_two_pow (Nat.lt_of_lt_of_le hs (by rw [show (256 : Nat) = 2 ^ 8 from rfl]; exact Nat.pow_le_pow_right (by decide) (by omega)))]
    decide
theorem bitsTo_all {s : Nat} (hs : s < 256) : bitsOf s = bitsTo s 8 := bitsTo_past hs 56
theorem bitsTo_len (s k : Nat) : (bitsTo s k).length ≤ k ∧ ∀ x ∈ bitsTo s k, x < k := by
  unfold bitsTo
  refine ⟨Nat.le_trans (List.length_filter_le ..) (by simp), fun x hx => ?_⟩
  exact List.mem_range.1 (List.mem_filter.1 hx).1
set_option maxHeartbeats 4000000 in
theorem RFiles_any (name : List UInt8) (hn : name.length ≤ 5000) (s : Nat) (hs : s < 256) (w : World) :
    Calls Tryz.prog 96 #[.string ⟨name.toArray⟩, .int .i64 s] w fun e w' => e = .returned (.string ⟨(setV name s).toArray⟩) ∧ w = w' := by
  have HB := Lib.hid (fun i (hi : i < 8) V => BitW_any s i V (by omega) (by omega))
  go_enter Tryz.func96, Tryz.ntmps96
  go_wp2_with fail
  go_loopw [0, 5] (fun v i wr => ∃ (k : Nat) (tx : List UInt8), k ≤ 8 ∧ i = .int .i64 k ∧ v = .string ⟨tx.toArray⟩ ∧ Hid (tx = name ++ (bitsTo s k).flatMap fun (i : Nat) => 32 :: Lib.itoa (i : Int)) ∧ wr = w) (fun _ i _ => 8 - (intOf i).toNat)
  case atStart => exact ⟨0, name, by omega, rfl, rfl, Lib.hid (by simp [bitsTo]), rfl⟩
  case round =>
    obtain ⟨k, tx, hk, rfl, rfl, Htx, hwr⟩ := hrel
    have hwr2 : w = wr := hwr.symm
    clear hwr
    subst hwr2
    have htl : tx.length ≤ 6000 := by
      rw [Htx.out]
      have h1 := bitsTo_len s k
      have := setLen name (bitsTo s k) (fun x hx => by have := h1.2 x hx; omega)
      omega
    by_cases hlt : k < 8
    · have CB := Lib.hid (HB.out k hlt w)
      have dk : decide ((k : Int) < 8) = true := by simp; omega
      cases hb : s.testBit k with
      | true =>
        rw [hb] at CB
        have C1 := Lib.hid (Digits_any w k (by omega))
        have hi := Lib.itoa_length_le (k : Int) (by omega) (by omega)
        have Hst := Lib.hid (show name ++ (bitsTo s (k + 1)).flatMap (fun (i : Nat) => 32 :: Lib.itoa (i : Int)) = (tx ++ [32]) ++ Lib.itoa (k : Int) by
          rw [bitsTo_succ, if_pos hb, ← setStep, ← Htx.out, List.append_assoc]; rfl)
        generalize hit : Lib.itoa (k : Int) = it at *
        have hlen : ¬ 9223372036854775807 < tx.length + 1 + it.length := by omega
        have hlen2 : ¬ 9223372036854775807 < tx.length + 1 := by omega
        clear hit hb Htx
        go_wp2_with fail
        refine CB.out.mono ?_
        rintro e w' ⟨rfl, rfl⟩
        go_wp2_with fail
        refine C1.out.mono ?_
        rintro e w' ⟨rfl, rfl⟩
        go_wp2_with fail
        refine ⟨⟨k + 1, (tx ++ [32]) ++ it, ?ya, ?yb, ?yc, Lib.hid Hst.out.symm, trivial⟩, ?yd⟩
        case ya => omega
        case yb => go_num
        case yc => rw [← bytes_add, ← bytes_add]
        case yd => simp [intOf]; omega
      | false =>
        rw [hb] at CB
        have Hst := Lib.hid (show tx = name ++ (bitsTo s (k + 1)).flatMap (fun (i : Nat) => 32 :: Lib.itoa (i : Int)) by
          rw [bitsTo_succ, if_neg (by rw [hb]; decide), List.append_nil]; exact Htx.out)
        clear hb Htx
        go_wp2_with fail
        refine CB.out.mono ?_
        rintro e w' ⟨rfl, rfl⟩
        go_wp2_with fail
        refine ⟨⟨k + 1, tx, ?za, ?zb, rfl, Hst, trivial⟩, ?zd⟩
        case za => omega
        case zb => go_num
        case zd => simp [intOf]; omega
    · have hk8 : k = 8 := by omega
      have Hfin := Lib.hid (show tx = setV name s by rw [Htx.out, hk8]; unfold setV; rw [bitsTo_all hs])
      have dk : decide ((k : Int) < 8) = false := by simp; omega
      clear Htx hk8
      go_wp2_with fail
      go_ret
      exact ⟨by rw [Hfin.out]; rfl, rfl⟩
end Go.Proofs.YtanlmfnhlldkeaaGreatDoor
