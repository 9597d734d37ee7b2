/-
  Contract: quietwingref1.Parse.
-/
import Derived.Test.YtndeplakkhfmlaaDoorRParseLaw
import Derived.Test.YtndeplakkhfmlaaDoorRWritten
import Derived.Test.YtndeplakkhfmlaaDoorSetW
import Derived.Laws.ResultCell
import Derived.Laws.Rows
import Derived.BigQuiet
import Derived.Lib.Strings
namespace Go.Proofs.YtndeplakkhfmlaaDoor
open Go.RowKit
set_option maxRecDepth 100000
set_option linter.unusedVariables false

/-- A letter among the first j alone. -/
def addTo (c : UInt8) (m j : Nat) : Nat := if 97 ≤ c.toNat ∧ c.toNat < 97 + j then m ||| 2 ^ (c.toNat - 97) else m
theorem addTo_all (c : UInt8) (m : Nat) : addTo c m 8 = addLet c m := by
  unfold addTo addLet
  by_cases h : 97 ≤ c.toNat ∧ c.toNat ≤ 104
  · rw [if_pos h, if_pos (by omega)]
  · rw [if_neg h, if_neg (by omega)]
theorem addTo_zero (c : UInt8) (m : Nat) : addTo c m 0 = m := by unfold addTo; rw [if_neg (by omega)]
theorem addTo_hit {c : UInt8} {m j : Nat} (h : c.toNat = 97 + j) : addTo c m j = m ∧ addTo c m (j + 1) = m ||| 2 ^ j := by
  unfold addTo
  exact ⟨if_neg (by omega), by rw [if_pos (by omega), h]; simp⟩
theorem addTo_miss {c : UInt8} {m j : Nat} (h : c.toNat ≠ 97 + j) : addTo c m (j + 1) = addTo c m j := by
  unfold addTo
  by_cases h1 : 97 ≤ c.toNat ∧ c.toNat < 97 + j
  · rw [if_pos h1, if_pos (by omega)]
  · rw [if_neg h1, if_neg (by omega)]
theorem addTo_lt {c : UInt8} {m j : Nat} (h : m < 2 ^ 8) (hj : j ≤ 8) : addTo c m j < 2 ^ 8 := by
  unfold addTo
  split
  · exact Nat.or_lt_two_pow h (Nat.pow_lt_pow_right (by decide) (by omega))
  · exact h
def rparseRes (l : List UInt8) : Value := match parseV l with
  | some (v, m) => .tuple #[.agg #[.int .i64 (v : Nat), .int .i64 (m : Nat)], .bool true]
  | none => .tuple #[.agg #[.int .i64 0, .int .i64 0], .bool false]

theorem results_row_tmp {P : Program} {fn : Func} {p u : Tmp} {ty : TypeId} (h : fn.results = #[.cell p ty, .tmp u]) (tmps : Array Value) (w : World) (g : Nat) (t : TypeId) (cs : Array Value) (fr : Nat × Nat) (d : TypeDesc)
    (hp : tmps.getD p undef = .pointer (some ⟨g, 0, none⟩)) (hg : w.heap[g]? = some (.cells cs t fr))
    (hu : P.underlying ty = some d) (hd : (match d with | .struct _ | .array _ _ => true | _ => false) = true) (hi : (P.info? ty).map (·.size) = some cs.size) :
    (results fn tmps).run P w = .ok (.tuple #[.agg cs, tmps.getD u undef]) w := by
  rw [results_cell_tmp h, hp]
  simp [asAddr, Result.andThen, run_loadVar_row w g t ty cs fr d hg hu hd hi]
theorem rparse_none {l : List UInt8} (h : ∀ v, v < 8 → labText v (letSet l.tail 0) ≠ l) : rparseRes l = .tuple #[.agg #[.int .i64 0, .int .i64 0], .bool false] := by
  unfold rparseRes
  cases hp : parseV l with
  | none => rfl
  | some x =>
    obtain ⟨v, m⟩ := x
    obtain ⟨h1, _, h3⟩ := parse_iff.1 hp
    exact absurd h3 (h v h1)
theorem rparse_some {l : List UInt8} {v : Nat} (hv : v < 8) (h : labText v (letSet l.tail 0) = l) : rparseRes l = .tuple #[.agg #[.int .i64 (v : Nat), .int .i64 (letSet l.tail 0 : Nat)], .bool true] := by
  unfold rparseRes
  rw [parse_iff.2 ⟨hv, rfl, h⟩]

theorem belowDR {B : Nat} {w w' : World} (h : Below B w w') (n : Nat) : Below B w (w'.drewN n) := ⟨h.os, h.tape, h.output, h.size, h.block⟩
theorem tail_take {s : ByteArray} {l : List UInt8} (hl : s.data.toList = l) {q : Nat} (h : q + 1 < s.size) {c : UInt8} (hc : s[q + 1]'h = c) : letSet (l.tail.take (q + 1)) 0 = addLet c (letSet (l.tail.take q) 0) := by
  have hlen : l.length = s.size := by rw [← hl]; rfl
  have h1 : l.tail[q]? = some c := by
    rw [List.getElem?_tail, ← hl, ← hc, List.getElem?_eq_getElem (by rw [hl, hlen]; exact h)]; rfl
  rw [List.take_add_one, h1, letSet_append]; rfl
theorem let_at {j : Nat} (h : j < 8) : ((⟨#[97, 98, 99, 100, 101, 102, 103, 104]⟩ : ByteArray)[j]'h).toNat = 97 + j := by
  have : j = 0 ∨ j = 1 ∨ j = 2 ∨ j = 3 ∨ j = 4 ∨ j = 5 ∨ j = 6 ∨ j = 7 := by omega
  rcases this with rfl | rfl | rfl | rfl | rfl | rfl | rfl | rfl <;> rfl

set_option maxHeartbeats 8000000 in
theorem RParse_any (s : ByteArray) (w : World) (hsm : s.size < 2 ^ 48) :
    Calls Tryd.prog 24 #[.string s] w fun e w' => e = .returned (rparseRes s.data.toList) ∧ Below w.heap.size w w' := by
  obtain ⟨l, hl⟩ : ∃ l, s.data.toList = l := ⟨_, rfl⟩
  have hln : l.length = s.size := by rw [← hl]; rfl
  rw [hl]
  have Hl := Lib.hid hl
  have hbx := BoxN.new w 28 #[.int .i64 0, .int .i64 0]
  have hb0 := (Below.refl w.heap.size w).alloc (Nat.le_refl _) (.cells #[.int .i64 0, .int .i64 0] 28)
  have Hln := Lib.hid hln
  clear hl hln
  go_enter Tryd.func24, Tryd.ntmps24
  go_wp2_with fail
  generalize w.alloc (.cells #[.int .i64 0, .int .i64 0] 28) = w1 at *
  go_loopw [4] (fun i wr => ∃ k : Nat, k ≤ 8 ∧ i = .int .i64 k ∧ BoxN wr w.heap.size 28 #[.int .i64 0, .int .i64 0] ∧ Hid (∀ v, v < k → labText v (letSet l.tail 0) ≠ l) ∧ Below w.heap.size w wr) (fun i _ => 8 - (intOf i).toNat)
  case atStart => exact ⟨0, Nat.zero_le _, rfl, hbx, Lib.hid (fun v hv => by omega), hb0⟩
  case round =>
    clear hbx hb0
    obtain ⟨k, hk, rfl, hbx, hno, hbr⟩ := hrel
    by_cases hk8 : k < 8
    · have hbx2 := hbx.alloc (.cells #[.int .i64 k, .int .i64 0] 28)
      have hbl := BoxN.new wr 28 #[.int .i64 k, .int .i64 0]
      have hb2 := hbr.alloc hbr.size (.cells #[.int .i64 k, .int .i64 0] 28)
      have hg := hbr.size
      have hgt := hbx.lt
      have hdk : decide ((k : Int) < 8) = true := decide_eq_true (by omega)
      go_wp2_with fail
      generalize hgg : wr.heap.size = g at *
      generalize wr.alloc (.cells #[.int .i64 k, .int .i64 0] 28) = w3 at *
      clear hgg
      go_loopw [6] (fun i wo => ∃ q m : Nat, i = .int .i64 (q + 1 : Nat) ∧ BoxN wo w.heap.size 28 #[.int .i64 0, .int .i64 0] ∧ BoxN wo g 28 #[.int .i64 k, .int .i64 m] ∧ m < 2 ^ 8 ∧ Hid (m = letSet (l.tail.take q) 0) ∧ (q = 0 ∨ q + 1 ≤ s.size ∧ s.size < 10) ∧ Below w.heap.size w wo) (fun i _ => s.size - (intOf i).toNat)
      case atStart => exact ⟨0, 0, rfl, hbx2, hbl, by decide, Lib.hid rfl, .inl rfl, hb2⟩
      case round =>
        clear hbx2 hbl hb2 hbx hbr
        obtain ⟨q, m, rfl, hbx, hbl, hm, hms, hq, hbr⟩ := hrel
        by_cases hin : q + 1 < s.size ∧ s.size < 10
        · obtain ⟨hin1, hin2⟩ := hin
          have hdec : decide ((s.size : Int) < 10) = true := decide_eq_true (by omega)
          obtain ⟨cc, hcc⟩ : ∃ cc : UInt8, s[q + 1]'hin1 = cc := ⟨_, rfl⟩
          go_wp2_with fail
          go_loopw [7] (fun i wi => ∃ j : Nat, j ≤ 8 ∧ i = .int .i64 j ∧ BoxN wi w.heap.size 28 #[.int .i64 0, .int .i64 0] ∧ BoxN wi g 28 #[.int .i64 k, .int .i64 (addTo cc m j : Nat)] ∧ Below w.heap.size w wi) (fun i _ => 8 - (intOf i).toNat)
          case atStart => exact ⟨0, Nat.zero_le _, rfl, hbx, by rw [addTo_zero]; exact hbl, hbr⟩
          case round =>
            clear hbx hbl hbr
            obtain ⟨j, hj, rfl, hbx, hbl, hbr⟩ := hrel
            by_cases hj8 : j < 8
            · have y1 := hbl.cell (k := 1) rfl
              have f1 := hbl.free 1
              obtain ⟨lt, hlt⟩ : ∃ lt : UInt8, (⟨#[97, 98, 99, 100, 101, 102, 103, 104]⟩ : ByteArray)[j]'hj8 = lt := ⟨_, rfl⟩
              have Hlt := Lib.hid (show lt.toNat = 97 + j by rw [← hlt]; exact let_at hj8)
              have hmj := addTo_lt (c := cc) (m := m) (j := j) hm hj
              by_cases hit : cc.toNat = lt.toNat
              · have d1 : ((cc.toNat : Int) == (lt.toNat : Int)) = true := by rw [hit]; simp
                have hA := addTo_hit (c := cc) (m := m) (j := j) (by rw [hit]; exact Hlt.out)
                have HA := Lib.hid (show addTo cc m (j + 1) = addTo cc m j ||| 2 ^ j by rw [hA.2, hA.1])
                have HW := Lib.hid (fun V => With_any (addTo cc m j) j V (by omega) (by omega))
                have Hbx := Lib.hid hbx
                have Hbl := Lib.hid hbl
                clear hA hbx hbl hit
                generalize addTo cc m j = am at *
                go_wp2_with fail
                go_quiet (fail)
                go_wp2_with (go_at_call 49; with_reducible refine (HW.out _).mono ?_; rintro e w' ⟨rfl, rfl⟩)
                refine ⟨⟨j + 1, ?ya, ?yb, ?yx, ?yc, ?yw⟩, ?yd⟩
                case ya => omega
                case yb => go_num
                case yx => exact (Hbx.out.drewN nq).other (a := ⟨g, 1, none⟩) (by show w.heap.size ≠ g; omega) _
                case yc => rw [HA.out]; exact (Hbl.out.drewN nq).set 1 _
                case yw => exact (belowDR hbr nq).setCell (p := ⟨g, 1, none⟩) hg _
                case yd => simp [intOf]; omega
              · have d1 : ((cc.toNat : Int) == (lt.toNat : Int)) = false := beq_eq_false_iff_ne.2 (fun e => hit (Int.ofNat.inj e))
                have HA := Lib.hid (addTo_miss (c := cc) (m := m) (j := j) (by rw [← Hlt.out]; exact hit))
                have Hbx := Lib.hid hbx
                have Hbl := Lib.hid hbl
                clear hbx hbl hit
                go_wp2_with fail
                go_quiet (fail)
                go_wp2_with fail
                refine ⟨⟨j + 1, ?ya, ?yb, Hbx.out.drewN _, ?yc, belowDR hbr _⟩, ?yd⟩
                case ya => omega
                case yb => go_num
                case yc => rw [HA.out]; exact Hbl.out.drewN _
                case yd => simp [intOf]; omega
            · obtain rfl : j = 8 := by omega
              have hm2 : addTo cc m 8 < 2 ^ 8 := addTo_lt hm (Nat.le_refl _)
              have Hm2 := Lib.hid (show addTo cc m 8 = letSet (l.tail.take (q + 1)) 0 by rw [addTo_all, hms.out]; exact (tail_take Hl.out hin1 hcc).symm)
              generalize addTo cc m 8 = m2 at *
              go_wp2_with fail
              refine ⟨⟨q + 1, m2, ?ya, hbx, hbl, hm2, Hm2, .inr ⟨by omega, hin2⟩, hbr⟩, ?yd⟩
              case ya => go_num
              case yd => simp [intOf]; omega
        · have hfull : m = letSet l.tail 0 ∨ 10 ≤ s.size ∧ m = 0 := by
            rcases Nat.lt_or_ge s.size 10 with h10 | h10
            · refine .inl ?_
              rw [hms.out, List.take_of_length_le (by rw [List.length_tail, Hln.out]; omega)]
            · refine .inr ⟨h10, ?_⟩
              have hq0 : q = 0 := by omega
              rw [hms.out, hq0]; rfl
          have Heq := Lib.hid (show labText k m = l ↔ labText k (letSet l.tail 0) = l by
            rcases hfull with h | ⟨h, h0⟩
            · rw [h]
            · exact iff_of_false (parse_long (by rw [Hln.out]; exact h) _ _ hm) (parse_long (by rw [Hln.out]; exact h) _ _ (letSet_lt _ (by decide))))
          have Hm := Lib.hid (show labText k m = l → m = letSet l.tail 0 from fun he => by
            rcases hfull with h | ⟨h, h0⟩
            · exact h
            · exact absurd he (parse_long (by rw [Hln.out]; exact h) _ _ hm))
          have HW := Lib.hid (fun V => RWritten_any k m V hk8 hm)
          have x0 := hbl.cell (k := 0) rfl
          have x1 := hbl.cell (k := 1) rfl
          have Hbx := Lib.hid hbx
          have Hbl := Lib.hid hbl
          have hstop : decide ((s.size : Int) < 10) = false ∨ ¬ q + 1 < s.size := by
            rcases Nat.lt_or_ge s.size 10 with h | h
            · exact .inr (fun h2 => hin ⟨h2, h⟩)
            · exact .inl (decide_eq_false (by omega))
          by_cases he : labText k m = l
          · have HW2 := Lib.hid (show ∀ V, Calls Tryd.prog 19 #[.agg #[.int .i64 k, .int .i64 m]] V (fun e w' => e = .returned (.string s) ∧ Below V.heap.size V w') from fun V => (HW.out V).mono fun e w' h => ⟨by rw [h.1, he, ← Hl.out], h.2⟩)
            have Hres := Lib.hid (show rparseRes l = .tuple #[.agg #[.int .i64 (k : Nat), .int .i64 (m : Nat)], .bool true] by rw [rparse_some hk8 (Heq.out.1 he), ← Hm.out he])
            have hbr' := Lib.hid hbr
            clear hfull hms hin hbx hbl HW Heq Hm he
            rcases hstop with hd | hd
            all_goals
              go_wp2_with (go_at_call 19; with_reducible refine (HW2.out _).mono ?_; rintro e w5 ⟨rfl, hb5⟩; have hbx5 := Hbx.out.all hb5; have hbl5 := Hbl.out.all hb5; have z0 := hbl5.cell (k := 0) rfl; have z1 := hbl5.cell (k := 1) rfl; have y0 := hbx5.cell (k := 0) rfl; have y1 := hbx5.cell (k := 1) rfl; have f0 := hbx5.free 0; have f1 := hbx5.free 1)
            all_goals
              refine bodyPost_ret (results_row_tmp rfl _ _ w.heap.size 28 #[.int .i64 k, .int .i64 m] (0, 0) _ rfl ((hbx5.set 0 (.int .i64 k)).set 1 (.int .i64 m)) Tryd.underlying28 rfl (by kernel_rfl)) rfl ?_
              exact ⟨by rw [Hres.out]; rfl, ((hbr'.out.trans (hb5.mono hbr'.out.size)).setCell (p := ⟨w.heap.size, 0, none⟩) (Nat.le_refl _) _).setCell (p := ⟨w.heap.size, 1, none⟩) (Nat.le_refl _) _⟩
          · obtain ⟨t, ht⟩ : ∃ t : ByteArray, (⟨(labText k m).toArray⟩ : ByteArray) = t := ⟨_, rfl⟩
            have hts : t ≠ s := fun e => he (by rw [← Hl.out, ← e, ← ht])
            have d1 : (t.toList == s.toList) = false := beq_eq_false_iff_ne.2 (fun e => hts (by rw [Lib.toList_data, Lib.toList_data] at e; exact ByteArray.ext (Array.toList_inj.1 e)))
            have HW2 := Lib.hid (show ∀ V, Calls Tryd.prog 19 #[.agg #[.int .i64 k, .int .i64 m]] V (fun e w' => e = .returned (.string t) ∧ Below V.heap.size V w') from fun V => (HW.out V).mono fun e w' h => ⟨by rw [h.1, ht], h.2⟩)
            have Hno2 := Lib.hid (show ∀ v, v < k + 1 → labText v (letSet l.tail 0) ≠ l from fun v hv => by
              rcases Nat.lt_or_ge v k with h | h
              · exact hno.out v h
              · obtain rfl : v = k := by omega
                exact fun e => he (Heq.out.2 e))
            have hbr' := Lib.hid hbr
            clear hfull hms hin hbx hbl HW Heq Hm he ht
            rcases hstop with hd | hd
            all_goals
              go_wp2_with (go_at_call 19; with_reducible refine (HW2.out _).mono ?_; rintro e w5 ⟨rfl, hb5⟩)
            all_goals
              refine ⟨⟨k + 1, ?ya, ?yb, Hbx.out.all hb5, Hno2, hbr'.out.trans (hb5.mono hbr'.out.size)⟩, ?yd⟩
              case ya => omega
              case yb => go_num
              case yd => simp [intOf]; omega
    · obtain rfl : k = 8 := by omega
      have x0 := hbx.cell (k := 0) rfl
      have x1 := hbx.cell (k := 1) rfl
      have f0 := hbx.free 0
      have f1 := hbx.free 1
      have hR := (hbx.set 0 (.int .i64 0)).set 1 (.int .i64 0)
      have hbe := (hbr.setCell (p := ⟨w.heap.size, 0, none⟩) (Nat.le_refl _) (.int .i64 0)).setCell (p := ⟨w.heap.size, 1, none⟩) (Nat.le_refl _) (.int .i64 0)
      have Hres := Lib.hid (rparse_none hno.out)
      go_wp2_with fail
      refine bodyPost_ret (results_row_tmp rfl _ _ w.heap.size 28 #[.int .i64 0, .int .i64 0] (0, 0) _ rfl hR Tryd.underlying28 rfl (by kernel_rfl)) rfl ?_
      exact ⟨by rw [Hres.out]; rfl, hbe⟩
end Go.Proofs.YtndeplakkhfmlaaDoor
