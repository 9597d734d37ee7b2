/-
  Contract: lattice.Is.
-/
import Derived.Test.YtbdochaahbpabaaDoorLatLaw3
import Derived.Deep.RegionWith
import Derived.Lib.QuietBelow
import Derived.BigQuiet
namespace Go.Proofs.YtbdochaahbpabaaDoor
open Go.RowKit
set_option maxRecDepth 100000
set_option linter.unusedVariables false

def both (c : List Nat) (a b : Nat) : Bool := decide (0 ≤ boundI false c a b) && decide (0 ≤ boundI true c a b)
def isLat (c : List Nat) : Bool := decide (0 < c.length) && (List.range c.length).all fun a => (List.range a).all fun b => both c a b
theorem isLat_false {c : List Nat} {a b : Nat} (ha : a < c.length) (hb : b < a) (h : both c a b = false) : isLat c = false := by
  refine Bool.eq_false_iff.2 fun e => ?_
  unfold isLat at e
  rw [Bool.and_eq_true, List.all_eq_true] at e
  have := e.2 a (List.mem_range.2 ha)
  rw [List.all_eq_true] at this
  have := this b (List.mem_range.2 hb)
  rw [h] at this
  cases this
theorem isLat_all {c : List Nat} (h : ∀ a, a < c.length → ∀ b, b < a → both c a b = true) : isLat c = decide (0 < c.length) := by
  unfold isLat
  have : ((List.range c.length).all fun a => (List.range a).all fun b => both c a b) = true := by
    rw [List.all_eq_true]; intro a ha
    rw [List.all_eq_true]; intro b hb
    exact h a (List.mem_range.1 ha) b (List.mem_range.1 hb)
  rw [this, Bool.and_true]

set_option maxHeartbeats 1000000 in
theorem Is_ok (r : List Nat) (h1 : r.length ≤ 12) (h2 : Bd r.length r) (ho : orderB (closed r) = true) (A : Option Addr) (c : Nat) (w : World) (h : IntsAt w A (castL r)) (hT : Tab w) :
    Calls Tryd.prog 31 #[.slice A r.length c] w fun e w' => e = .returned (.tuple #[.bool (isLat (closed r)), .nilIface]) ∧ Below w.heap.size w w' := by
  have Ho := Lib.hid (lorder_ok r h1 h2 ho A c w h hT)
  have hcn := length_closed r
  have hcb := closed_lt r h2
  clear h h2 ho
  generalize closed r = cl at *
  generalize r.length = n at *
  have Ht := Lib.hid (fun (B : Option Addr) (c' : Nat) (V : World) (hV : IntsAt V B (castL cl)) (hTV : Tab V) => turned_any cl n hcn h1 hcb B c' V hV hTV)
  have Hcn := Lib.hid hcn
  have Hcb := Lib.hid hcb
  have Hun := Lib.hid ((length_turnL cl).trans hcn)
  have Hub := Lib.hid (show Bd n (turnL cl) from hcn ▸ bd_turnL cl)
  have Hteq := Lib.hid (fun (D : List Nat) (hl : D.length = n) (hbd : Bd n D) (ht : Turned n cl D) => turned_eq hcn hl hbd ht)
  have Hl0 := Lib.hid (fun (s : Nat) (hs : s < 2 ^ n) (B : Option Addr) (c' : Nat) (V : World) (hV : IntsAt V B (castL cl)) (hTV : Tab V) => least_any cl n s hcn h1 hcb hs B c' V hV hTV)
  have Hl1 := Lib.hid (fun (s : Nat) (hs : s < 2 ^ n) (B : Option Addr) (c' : Nat) (V : World) (hV : IntsAt V B (castL (turnL cl))) (hTV : Tab V) => least_any (turnL cl) n s Hun.out h1 Hub.out hs B c' V hV hTV)
  have Hf := Lib.hid (fun (a b : Nat) (ha : a < n) (hb : b < a) (hb' : both cl a b = false) => isLat_false (c := cl) (by omega) hb hb')
  have Ha := Lib.hid (fun (h : ∀ a, a < n → ∀ b, b < a → both cl a b = true) => (isLat_all (c := cl) (by rw [hcn]; exact h)).trans (by rw [hcn]))
  clear hcn hcb
  generalize hil : isLat cl = il at *
  clear hil
  go_enter Tryd.func31, Tryd.ntmps31
  go_wp2_with fail
  refine Ho.out.mono ?_
  rintro e w1 ⟨B, c', rfl, hi, hb1⟩
  have hT1 := hT.next hb1
  go_wp2_with fail
  refine (Ht.out B c' w1 hi hT1).mono ?_
  rintro e w2 ⟨D, B2, c2, rfl, hd2, hl2, hbd2, htu, hb2⟩
  obtain rfl := Hteq.out D hl2 hbd2 htu
  have hT2 := hT1.next hb2
  have hi2 := hi.below hb2
  have hbl2 := hb1.trans (hb2.mono hb1.size)
  clear Ht Hteq hi hl2 hbd2 htu hT1 hb1 hb2 Ho hT
  go_wp2_with fail
  go_loopw [21] (fun i wr => ∃ a : Nat, a ≤ n ∧ i = .int .i64 a ∧ Below w2.heap.size w2 wr ∧ Hid (∀ x, x < a → ∀ b, b < x → both cl x b = true)) (fun i _ => n - (intOf i).toNat)
  case atStart => exact ⟨0, Nat.zero_le _, rfl, Below.refl _ _, fun x hx => by omega⟩
  case round =>
    obtain ⟨a, ha, rfl, hbw, hall⟩ := hrel
    by_cases hlt : a < n
    · go_wp2_with fail
      go_loopw [25] (fun i wr => ∃ b : Nat, b ≤ a ∧ i = .int .i64 b ∧ Below w2.heap.size w2 wr ∧ Hid (∀ y, y < b → both cl a y = true)) (fun i _ => a - (intOf i).toNat)
      case atStart => exact ⟨0, Nat.zero_le _, rfl, hbw, fun x hx => by omega⟩
      case round =>
        clear hbw
        obtain ⟨b, hb, rfl, hbw, hrow⟩ := hrel
        by_cases hltb : b < a
        · have hi3 := hi2.below hbw
          have hd3 := hd2.below hbw
          have hT3 := hT2.next hbw
          obtain ⟨x, off, rfl, ka⟩ := hi3.row (k := a) (by rw [Hcn.out]; exact hlt)
          obtain ⟨x', off', hE, kb⟩ := hi3.row (k := b) (by rw [Hcn.out]; omega)
          obtain ⟨rfl, rfl⟩ : x = x' ∧ off = off' := by injection hE with hE; injection hE with e1 e2; exact ⟨e1, e2⟩
          obtain ⟨z, zf, rfl, ta⟩ := hd3.row (k := a) (by rw [Hun.out]; exact hlt)
          obtain ⟨x', off', hE2, tb⟩ := hd3.row (k := b) (by rw [Hun.out]; omega)
          obtain ⟨rfl, rfl⟩ : z = x' ∧ zf = off' := by injection hE2 with hE2; injection hE2 with e1 e2; exact ⟨e1, e2⟩
          have hlen : ∀ q, q < 2 ^ n → q < 2 ^ 12 := fun q hq => Nat.lt_of_lt_of_le hq (Nat.pow_le_pow_right (by decide) h1)
          have ra := hlen _ (Hcb.out a)
          have rb := hlen _ (Hcb.out b)
          have ua := hlen _ (Hub.out a)
          have ub := hlen _ (Hub.out b)
          have hbits := bits_and_nat (row cl a) (row cl b) (by omega) (by omega)
          have hbits2 := bits_and_nat (row (turnL cl) a) (row (turnL cl) b) (by omega) (by omega)
          have L0 := Lib.hid (fun (V : World) (hV : Below w2.heap.size w2 V) => Hl0.out (row cl a &&& row cl b) (Nat.and_lt_two_pow _ (Hcb.out b)) (some ⟨x, off, none⟩) c' V (hi2.below hV) (hT2.next hV))
          have L1 := Lib.hid (fun (V : World) (hV : Below w2.heap.size w2 V) => Hl1.out (row (turnL cl) a &&& row (turnL cl) b) (Nat.and_lt_two_pow _ (Hub.out b)) (some ⟨z, zf, none⟩) c2 V (hd2.below hV) (hT2.next hV))
          have Hb := Lib.hid (show both cl a b = (decide (0 ≤ leastI cl (row cl a &&& row cl b)) && decide (0 ≤ leastI (turnL cl) (row (turnL cl) a &&& row (turnL cl) b))) from rfl)
          generalize leastI cl (row cl a &&& row cl b) = v0 at *
          generalize leastI (turnL cl) (row (turnL cl) a &&& row (turnL cl) b) = v1 at *
          generalize row cl a &&& row cl b = s0 at *
          generalize row (turnL cl) a &&& row (turnL cl) b = s1 at *
          generalize row cl a = y0 at *
          generalize row cl b = y1 at *
          generalize row (turnL cl) a = y2 at *
          generalize row (turnL cl) b = y3 at *
          clear hE hE2 hlen hi3 hd3
          have ka' := cell_regrown ka
          have kb' := cell_regrown kb
          have ta' := cell_regrown ta
          have tb' := cell_regrown tb
          have q0 := fun (d : Nat) (os : Array Obj) => Calls.regrown_of (L0.out (Sort.grow (redrawn wr d) os) (hbw.trans ((below_regrown wr d os).mono hbw.size)))
          have q1 := fun (d : Nat) (os : Array Obj) => Calls.regrown_of (L1.out (Sort.grow (redrawn wr d) os) (hbw.trans ((below_regrown wr d os).mono hbw.size)))
          have Q0 := Lib.hid q0
          have Q1 := Lib.hid q1
          clear L0 L1 q0 q1 ka kb ta tb
          by_cases hv0 : 0 ≤ v0
          · have g0 : decide (v0 < 0) = false := by simpa using hv0
            by_cases hv1 : 0 ≤ v1
            · have g1 : decide (v1 < 0) = false := by simpa using hv1
              have Hr := Lib.hid (fun (y : Nat) (hy : y < b + 1) => show both cl a y = true from by
                rcases Nat.lt_or_ge y b with h | h
                · exact hrow.out y h
                · obtain rfl : y = b := by omega
                  rw [Hb.out]; simp [hv0, hv1])
              clear hv0 hv1 Hb hrow
              go_wp2_with fail
              refine wp_region_quiet_below (by kernel_rfl) (by kernel_rfl) ?_
              repeat (go_big_quiet_step (first | (with_reducible exact Q0.out _ _) | (with_reducible exact Q1.out _ _)))
              refine wpQuiet_nil ?_
              rintro _ ⟨pq, rfl⟩
              have hbq := hbw.trans ((below_regrown wr pq.d pq.os).mono hbw.size)
              generalize Sort.grow (redrawn wr pq.d) pq.os = wq at *
              go_wp2_with fail
              refine ⟨⟨b + 1, ?ya, ?yb, hbq, Hr⟩, ?yd⟩
              case ya => omega
              case yb => simp
              case yd => simp [intOf]; omega
            · have g1 : decide (v1 < 0) = true := by simp; omega
              have Hno := Lib.hid (Hf.out a b hlt hltb (by rw [Hb.out]; simp [hv1]))
              clear hv0 hv1 Hb hrow
              go_wp2_with fail
              refine wp_region_quiet_below (by kernel_rfl) (by kernel_rfl) ?_
              repeat (go_big_quiet_step (first | (with_reducible exact Q0.out _ _) | (with_reducible exact Q1.out _ _)))
              refine wpQuiet_nil ?_
              rintro _ ⟨pq, rfl⟩
              have hbq := hbw.trans ((below_regrown wr pq.d pq.os).mono hbw.size)
              generalize Sort.grow (redrawn wr pq.d) pq.os = wq at *
              go_wp2_with fail
              go_ret2
              exact ⟨by rw [Hno.out]; rfl, hbl2.trans (hbq.mono hbl2.size)⟩
          · have g0 : decide (v0 < 0) = true := by simp; omega
            have Hno := Lib.hid (Hf.out a b hlt hltb (by rw [Hb.out]; simp [hv0]))
            clear hv0 Hb hrow
            go_wp2_with fail
            refine wp_region_quiet_below (by kernel_rfl) (by kernel_rfl) ?_
            repeat (go_big_quiet_step (first | (with_reducible exact Q0.out _ _) | (with_reducible exact Q1.out _ _)))
            refine wpQuiet_nil ?_
            rintro _ ⟨pq, rfl⟩
            have hbq := hbw.trans ((below_regrown wr pq.d pq.os).mono hbw.size)
            generalize Sort.grow (redrawn wr pq.d) pq.os = wq at *
            go_wp2_with fail
            go_ret2
            exact ⟨by rw [Hno.out]; rfl, hbl2.trans (hbq.mono hbl2.size)⟩
        · obtain rfl : b = a := by omega
          go_wp2_with fail
          refine ⟨⟨b + 1, ?ya, ?yb, hbw, ?yc⟩, ?yd⟩
          case ya => omega
          case yb => simp
          case yc =>
            intro x hx y hy
            rcases Nat.lt_or_ge x b with h | h
            · exact hall.out x h y hy
            · obtain rfl : x = b := by omega
              exact hrow.out y hy
          case yd => simp [intOf]; omega
    · obtain rfl : a = n := by omega
      have he := Ha.out (fun x hx => hall.out x hx)
      have Heq := Lib.hid he
      clear hall he
      go_wp2_with fail
      go_ret2
      exact ⟨by rw [Heq.out]; simp, hbl2.trans (hbw.mono hbl2.size)⟩
end Go.Proofs.YtbdochaahbpabaaDoor
