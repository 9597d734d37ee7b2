/-
  Contracts of the reference: Order, above, Bound.
-/
import Derived.Test.YtbdochaahbpabaaDoorRef2
import Derived.Test.YtbdochaahbpabaaDoorLatRules
namespace Go.Proofs.YtbdochaahbpabaaDoor
open Go.RowKit
set_option maxRecDepth 100000
set_option linter.unusedVariables false

set_option maxHeartbeats 2000000 in
theorem ROrder_any (r : List Nat) (hlen : r.length ≤ 12) (hb : Bd r.length r) (A : Option Addr) (c : Nat) (w : World) (h : IntsAt w A (castL r)) :
    Calls Tryd.prog 44 #[.slice A r.length c] w fun e w' => e = .returned (.bool (orderB (closed r))) ∧ Below w.heap.size w w' := by
  have Hc := Lib.hid (RClosure_any r hlen hb A c w h)
  have hcb := closed_lt r hb
  have Hord := Lib.hid (orderB_iff (c := closed r) (by rw [length_closed]; omega) (by rw [length_closed]; exact hcb))
  have Hcn := Lib.hid (length_closed r)
  have Hr12 := Lib.hid (fun i => Nat.lt_of_lt_of_le (hcb i) (Nat.pow_le_pow_right (by decide) hlen))
  clear hcb hb h
  generalize closed r = cl at *
  generalize r.length = n at *
  go_enter Tryd.func44, Tryd.ntmps44
  go_wp2_with fail
  refine Hc.out.mono ?_
  rintro e w1 ⟨B, c', rfl, hi, hb1⟩
  clear Hc
  go_wp2_with fail
  go_loop [4] (fun i => ∃ k : Nat, k ≤ n ∧ i = .int .i64 k ∧ Hid (∀ a b, a < k → b < n → a ≠ b → (row cl a).testBit b = true → (row cl b).testBit a = false)) (fun i => n - (intOf i).toNat)
  case atStart => exact ⟨0, Nat.zero_le _, rfl, fun a b h => by omega⟩
  case round =>
    obtain ⟨k, hk, rfl, hall⟩ := hrel
    by_cases hlt : k < n
    · go_wp2_with fail
      go_loop [5] (fun i => ∃ j : Nat, j ≤ n ∧ i = .int .i64 j ∧ Hid (∀ b, b < j → k ≠ b → (row cl k).testBit b = true → (row cl b).testBit k = false)) (fun i => n - (intOf i).toNat)
      case atStart => exact ⟨0, Nat.zero_le _, rfl, fun b h => by omega⟩
      case round =>
        obtain ⟨j, hj, rfl, hrow⟩ := hrel
        by_cases hltj : j < n
        · obtain ⟨b, off, rfl, ka⟩ := hi.row (k := k) (by rw [Hcn.out]; exact hlt)
          obtain ⟨b', off', hE, kb⟩ := hi.row (k := j) (by rw [Hcn.out]; exact hltj)
          obtain ⟨rfl, rfl⟩ : b = b' ∧ off = off' := by injection hE with hE; injection hE with e1 e2; exact ⟨e1, e2⟩
          clear hE
          have ra := Hr12.out k
          have rb := Hr12.out j
          have next := fun (hx : k ≠ j → (row cl k).testBit j = true → (row cl j).testBit k = false) (b : Nat) (hb : b < j + 1) (hne : k ≠ b) (hbit : (row cl k).testBit b = true) => show (row cl b).testBit k = false from by
            rcases Nat.lt_or_ge b j with h | h
            · exact hrow.out b h hne hbit
            · obtain rfl : b = j := by omega
              exact hx hne hbit
          by_cases hkj : k = j
          · have g : ((k : Int) != (j : Int)) = false := by simp; omega
            have Hn := Lib.hid (next fun h => absurd hkj h)
            clear hkj next hrow
            go_wp2_with fail
            refine ⟨⟨j + 1, ?ya, ?yb, Hn⟩, ?yd⟩
            case ya => omega
            case yb => go_num
            case yd => simp [intOf]; omega
          · have g : ((k : Int) != (j : Int)) = true := by simp; omega
            cases b1 : (row cl k).testBit j with
            | false =>
              have C1 := Lib.hid (fun V => Bit_is (row cl k) j false V (by omega) (by omega) b1)
              have Hn := Lib.hid (next fun _ h => by rw [b1] at h; cases h)
              clear hkj next hrow b1
              generalize row cl k = x at *
              generalize row cl j = y at *
              go_wp2_with (go_at_call 21; with_reducible refine (C1.out _).mono ?_; rintro e w' ⟨rfl, rfl⟩)
              refine ⟨⟨j + 1, ?za, ?zb, Hn⟩, ?zd⟩
              case za => omega
              case zb => go_num
              case zd => simp [intOf]; omega
            | true =>
              have C1 := Lib.hid (fun V => Bit_is (row cl k) j true V (by omega) (by omega) b1)
              cases b2 : (row cl j).testBit k with
              | false =>
                have C2 := Lib.hid (fun V => Bit_is (row cl j) k false V (by omega) (by omega) b2)
                have Hn := Lib.hid (next fun _ h => b2)
                clear hkj next hrow b1 b2
                generalize row cl k = x at *
                generalize row cl j = y at *
                go_wp2_with (first | (go_at_call 21; with_reducible refine (C1.out _).mono ?_; rintro e w' ⟨rfl, rfl⟩) | (go_at_call 21; with_reducible refine (C2.out _).mono ?_; rintro e w' ⟨rfl, rfl⟩))
                refine ⟨⟨j + 1, ?wa, ?wb, Hn⟩, ?wd⟩
                case wa => omega
                case wb => go_num
                case wd => simp [intOf]; omega
              | true =>
                have C2 := Lib.hid (fun V => Bit_is (row cl j) k true V (by omega) (by omega) b2)
                have Hno := Lib.hid (show orderB cl = false from Bool.eq_false_iff.2 fun e => by
                  have := Hord.out.1 e k j (by rw [Hcn.out]; exact hlt) (by rw [Hcn.out]; exact hltj) hkj b1
                  rw [b2] at this; cases this)
                clear hkj next hrow b1 b2
                generalize row cl k = x at *
                generalize row cl j = y at *
                go_wp2_with (first | (go_at_call 21; with_reducible refine (C1.out _).mono ?_; rintro e w' ⟨rfl, rfl⟩) | (go_at_call 21; with_reducible refine (C2.out _).mono ?_; rintro e w' ⟨rfl, rfl⟩))
                go_ret
                exact ⟨ret_bool Hno.out.symm, hb1⟩
        · obtain rfl : j = n := by omega
          have Hn := Lib.hid (show ∀ a b, a < k + 1 → b < j → a ≠ b → (row cl a).testBit b = true → (row cl b).testBit a = false from fun a b ha hb hne hbit => by
            rcases Nat.lt_or_ge a k with h | h
            · exact hall.out a b h hb hne hbit
            · obtain rfl : a = k := by omega
              exact hrow.out b hb hne hbit)
          clear hall hrow
          go_wp2_with fail
          refine ⟨⟨k + 1, ?va, ?vb, Hn⟩, ?vd⟩
          case va => omega
          case vb => go_num
          case vd => simp [intOf]; omega
    · obtain rfl : k = n := by omega
      have Hyes := Lib.hid (show orderB cl = true from Hord.out.2 fun a b ha hb hne hbit => hall.out a b (by rw [← Hcn.out]; exact ha) (by rw [← Hcn.out]; exact hb) hne hbit)
      clear hall
      go_wp2_with fail
      go_ret
      exact ⟨ret_bool Hyes.out.symm, hb1⟩

theorem above_any (cl : List Nat) (n : Nat) (hn : cl.length = n) (hlen : n ≤ 12) (hcb : Bd n cl) (B : Option Addr) (c : Nat) (k a : Nat) (m : Bool) (w : World) (hi : IntsAt w B (castL cl)) (hk : k < n) (ha : a < n) :
    Calls Tryd.prog 70 #[.slice B n c, .int .i64 k, .int .i64 a, .bool m] w fun e w' => e = .returned (.bool (if m then (row cl k).testBit a else (row cl a).testBit k)) ∧ w = w' := by
  obtain ⟨b, off, rfl, ka⟩ := hi.row (k := k) (by omega)
  obtain ⟨b', off', hE, kb⟩ := hi.row (k := a) (by omega)
  obtain ⟨rfl, rfl⟩ : b = b' ∧ off = off' := by injection hE with hE; injection hE with e1 e2; exact ⟨e1, e2⟩
  clear hE
  have r12 := fun i => Nat.lt_of_lt_of_le (hcb i) (Nat.pow_le_pow_right (by decide) hlen)
  have C1 := Lib.hid (fun V => Bit_any (row cl k) a V (by have := r12 k; omega) (by omega))
  have C2 := Lib.hid (fun V => Bit_any (row cl a) k V (by have := r12 a; omega) (by omega))
  clear r12 hcb hi hn
  generalize (row cl k).testBit a = b1 at *
  generalize (row cl a).testBit k = b2 at *
  generalize row cl k = x at *
  generalize row cl a = y at *
  cases m with
  | true =>
    go_enter Tryd.func70, Tryd.ntmps70
    go_wp2_with (go_at_call 21; with_reducible refine (C1.out _).mono ?_; rintro e w' ⟨rfl, rfl⟩)
    go_ret
    exact ⟨rfl, rfl⟩
  | false =>
    go_enter Tryd.func70, Tryd.ntmps70
    go_wp2_with (go_at_call 21; with_reducible refine (C2.out _).mono ?_; rintro e w' ⟨rfl, rfl⟩)
    go_ret
    exact ⟨rfl, rfl⟩
/-- 'k is above a', in the order or turned. -/
def abv (r : List Nat) (m : Bool) (a k : Nat) : Bool := (row (upOf m (closed r)) a).testBit k
theorem above_is (r : List Nat) (hlen : r.length ≤ 12) (hb : Bd r.length r) (B : Option Addr) (c : Nat) (k a : Nat) (m : Bool) (v : Bool) (w : World) (hi : IntsAt w B (castL (closed r))) (hk : k < r.length) (ha : a < r.length) (hv : abv r m a k = v) :
    Calls Tryd.prog 70 #[.slice B r.length c, .int .i64 k, .int .i64 a, .bool m] w fun e w' => e = .returned (.bool v) ∧ w = w' := by
  have := above_any (closed r) r.length (length_closed r) hlen (closed_lt r hb) B c k a m w hi hk ha
  subst hv
  unfold abv
  rw [upOf_bit m ha hk]
  exact this
theorem isB_iff {r : List Nat} (hb : Bd r.length r) {m : Bool} {a b x : Nat} (hx : x < r.length) : IsB r m a b x ↔ abv r m a x = true ∧ abv r m b x = true ∧ ∀ j, j < r.length → abv r m a j = true → abv r m b j = true → abv r m x j = true := by
  unfold abv
  have hbu : Bd r.length (upOf m (closed r)) := by
    have := bd_upOf m (c := closed r) (by rw [length_closed]; exact closed_lt r hb)
    rwa [length_closed] at this
  exact ⟨fun h => ⟨h.l, h.rr, fun j _ => h.least j⟩, fun h => ⟨hx, h.1, h.2.1, fun k h1 h2 => h.2.2 k (bit_of (hbu a) h1) h1 h2⟩⟩
theorem boundV_none {r : List Nat} (m : Bool) (h1 : r.length ≤ 12) (h2 : Bd r.length r) (ho : orderB (closed r) = true) {a b : Nat} (ha : a < r.length) (hb : b < r.length) (h : ∀ x, x < r.length → ¬ IsB r m a b x) : boundV (castL r) m a b = (0, 5) := by
  rw [boundV_in m h1 h2 ho ha hb, if_neg]
  intro h0
  obtain ⟨x, hx⟩ := isB_of h1 h2 ho ha hb h0
  exact h x hx.lt hx

set_option maxHeartbeats 4000000 in
theorem RBound_any (r : List Nat) (hlen : r.length ≤ 12) (hb : Bd r.length r) (ho : orderB (closed r) = true) (A : Option Addr) (c : Nat) (a b : Nat) (m : Bool) (w : World) (h : IntsAt w A (castL r)) (ha : a < r.length) (hbn : b < r.length) :
    Calls Tryd.prog 45 #[.slice A r.length c, .int .i64 a, .int .i64 b, .bool m] w fun e w' => e = .returned (.tuple #[.int .i64 (boundV (castL r) m a b).1, .bool (decide ((boundV (castL r) m a b).2 = 0))]) ∧ Below w.heap.size w w' := by
  have Hc := Lib.hid (RClosure_any r hlen hb A c w h)
  have Hab := Lib.hid (fun (B : Option Addr) (c : Nat) (k a : Nat) (v : Bool) (w : World) (hi : IntsAt w B (castL (closed r))) (hk : k < r.length) (ha : a < r.length) (hv : abv r m a k = v) => above_is r hlen hb B c k a m v w hi hk ha hv)
  have Hyes := Lib.hid (fun (x : Nat) (hx : x < r.length) (h : abv r m a x = true ∧ abv r m b x = true ∧ ∀ j, j < r.length → abv r m a j = true → abv r m b j = true → abv r m x j = true) => ((isB_iff hb hx).2 h).val hlen hb ho ha hbn)
  have Hno := Lib.hid (fun (h : ∀ x, x < r.length → ¬ (abv r m a x = true ∧ abv r m b x = true ∧ ∀ j, j < r.length → abv r m a j = true → abv r m b j = true → abv r m x j = true)) => boundV_none m hlen hb ho ha hbn fun x hx hB => h x hx ((isB_iff hb hx).1 hB))
  clear hb h ho
  generalize closed r = cl at *
  generalize hV : boundV (castL r) m a b = V at *
  clear hV
  have hU : ∃ U : Nat → Nat → Bool, ∀ a k, abv r m a k = U a k := ⟨abv r m, fun _ _ => rfl⟩
  obtain ⟨U, hU⟩ := hU
  simp only [hU] at Hab Hyes Hno
  clear hU
  generalize r.length = n at *
  go_enter Tryd.func45, Tryd.ntmps45
  go_wp2_with fail
  refine Hc.out.mono ?_
  rintro e w1 ⟨B, c', rfl, hi, hb1⟩
  clear Hc
  have Hi := Lib.hid hi
  clear hi
  go_wp2_with fail
  go_loop [11] (fun i => ∃ k : Nat, k ≤ n ∧ i = .int .i64 k ∧ Hid (∀ x, x < k → ¬ (U a x = true ∧ U b x = true ∧ ∀ j, j < n → U a j = true → U b j = true → U x j = true))) (fun i => n - (intOf i).toNat)
  case atStart => exact ⟨0, Nat.zero_le _, rfl, fun x h => by omega⟩
  case round =>
    obtain ⟨k, hk, rfl, hall⟩ := hrel
    by_cases hlt : k < n
    · have Ca := Lib.hid (fun V hV => Hab.out B c' k a (U a k) V hV hlt ha rfl)
      have Cb := Lib.hid (fun V hV => Hab.out B c' k b (U b k) V hV hlt hbn rfl)
      have hgood : ∃ g : Bool, g = (U a k && U b k) := ⟨_, rfl⟩
      obtain ⟨g, hg⟩ := hgood
      have Hg := Lib.hid hg
      clear hg
      -- the two tests, then the inner loop
      have start : ∀ (Q : Prop), (g = true → Q) → (g = false → Q) → Q := fun Q h1 h2 => by cases g; exact h2 rfl; exact h1 rfl
      clear start
      by_cases h1 : U a k = true
      · by_cases h2 : U b k = true
        · have Ca' := Lib.hid (fun V hV => Hab.out B c' k a true V hV hlt ha h1)
          have Cb' := Lib.hid (fun V hV => Hab.out B c' k b true V hV hlt hbn h2)
          have H1 := Lib.hid h1
          have H2 := Lib.hid h2
          clear Ca Cb h1 h2 Hg
          go_wp2_with (first | (go_at_call 70; with_reducible refine (Ca'.out _ Hi.out).mono ?_; rintro e w' ⟨rfl, rfl⟩) | (go_at_call 70; with_reducible refine (Cb'.out _ Hi.out).mono ?_; rintro e w' ⟨rfl, rfl⟩))
          go_loop [12, 13] (fun gg jj => ∃ (j : Nat) (g : Bool), j ≤ n ∧ jj = .int .i64 j ∧ gg = .bool g ∧ Hid (g = true → ∀ x, x < j → U a x = true → U b x = true → U k x = true) ∧ Hid (g = false → ∃ x, x < n ∧ U a x = true ∧ U b x = true ∧ U k x = false)) (fun _ jj => n - (intOf jj).toNat)
          case atStart => exact ⟨0, true, Nat.zero_le _, rfl, rfl, fun _ x h => by omega, fun h => by cases h⟩
          case round =>
            obtain ⟨j, g, hj, rfl, rfl, hgt, hgf⟩ := hrel
            by_cases hltj : j < n
            · cases g with
              | true =>
                have nx := fun (v : Bool) (hv : U a j = true → U b j = true → U k j = v) (x : Nat) (hx : x < j + 1) (e1 : U a x = true) (e2 : U b x = true) (hvt : v = true) => show U k x = true from by
                  rcases Nat.lt_or_ge x j with h | h
                  · exact hgt.out rfl x h e1 e2
                  · obtain rfl : x = j := by omega
                    rw [hv e1 e2, hvt]
                by_cases b1 : U a j = true
                · have D1 := Lib.hid (fun V hV => Hab.out B c' j a true V hV hltj ha b1)
                  by_cases b2 : U b j = true
                  · have D2 := Lib.hid (fun V hV => Hab.out B c' j b true V hV hltj hbn b2)
                    cases b3 : U k j with
                    | true =>
                      have D3 := Lib.hid (fun V hV => Hab.out B c' j k true V hV hltj hlt b3)
                      have N1 := Lib.hid (fun (_ : true = true) (x : Nat) (hx : x < j + 1) (e1 : U a x = true) (e2 : U b x = true) => nx true (fun _ _ => b3) x hx e1 e2 rfl)
                      clear nx b1 b2 b3 hgt hgf
                      go_wp2_with (first | (go_at_call 70; with_reducible refine (D1.out _ Hi.out).mono ?_; rintro e w' ⟨rfl, rfl⟩) | (go_at_call 70; with_reducible refine (D2.out _ Hi.out).mono ?_; rintro e w' ⟨rfl, rfl⟩) | (go_at_call 70; with_reducible refine (D3.out _ Hi.out).mono ?_; rintro e w' ⟨rfl, rfl⟩))
                      refine ⟨⟨j + 1, true, ?ya, ?yb, rfl, (fun _ => N1.out trivial), ?yc⟩, ?yd⟩
                      case ya => omega
                      case yb => go_num
                      case yc => intro h; cases h
                      case yd => simp [intOf]; omega
                    | false =>
                      have D3 := Lib.hid (fun V hV => Hab.out B c' j k false V hV hltj hlt b3)
                      have N2 := Lib.hid (fun (_ : false = false) => (⟨j, hltj, b1, b2, b3⟩ : ∃ x, x < n ∧ U a x = true ∧ U b x = true ∧ U k x = false))
                      clear nx b1 b2 b3 hgt hgf
                      go_wp2_with (first | (go_at_call 70; with_reducible refine (D1.out _ Hi.out).mono ?_; rintro e w' ⟨rfl, rfl⟩) | (go_at_call 70; with_reducible refine (D2.out _ Hi.out).mono ?_; rintro e w' ⟨rfl, rfl⟩) | (go_at_call 70; with_reducible refine (D3.out _ Hi.out).mono ?_; rintro e w' ⟨rfl, rfl⟩))
                      refine ⟨⟨j + 1, false, ?za, ?zb, rfl, ?zc, (fun _ => N2.out trivial)⟩, ?zd⟩
                      case za => omega
                      case zb => go_num
                      case zc => intro h; cases h
                      case zd => simp [intOf]; omega
                  · have D2 := Lib.hid (fun V hV => Hab.out B c' j b false V hV hltj hbn (by simpa using b2))
                    have N1 := Lib.hid (fun (_ : true = true) (x : Nat) (hx : x < j + 1) (e1 : U a x = true) (e2 : U b x = true) => nx true (fun _ h => absurd h b2) x hx e1 e2 rfl)
                    clear nx b1 b2 hgt hgf
                    go_wp2_with (first | (go_at_call 70; with_reducible refine (D1.out _ Hi.out).mono ?_; rintro e w' ⟨rfl, rfl⟩) | (go_at_call 70; with_reducible refine (D2.out _ Hi.out).mono ?_; rintro e w' ⟨rfl, rfl⟩))
                    refine ⟨⟨j + 1, true, ?wa, ?wb, rfl, (fun _ => N1.out trivial), ?wc⟩, ?wd⟩
                    case wa => omega
                    case wb => go_num
                    case wc => intro h; cases h
                    case wd => simp [intOf]; omega
                · have D1 := Lib.hid (fun V hV => Hab.out B c' j a false V hV hltj ha (by simpa using b1))
                  have N1 := Lib.hid (fun (_ : true = true) (x : Nat) (hx : x < j + 1) (e1 : U a x = true) (e2 : U b x = true) => nx true (fun h => absurd h b1) x hx e1 e2 rfl)
                  clear nx b1 hgt hgf
                  go_wp2_with (go_at_call 70; with_reducible refine (D1.out _ Hi.out).mono ?_; rintro e w' ⟨rfl, rfl⟩)
                  refine ⟨⟨j + 1, true, ?va, ?vb, rfl, (fun _ => N1.out trivial), ?vc⟩, ?vd⟩
                  case va => omega
                  case vb => go_num
                  case vc => intro h; cases h
                  case vd => simp [intOf]; omega
              | false =>
                have Hn := Lib.hid (show ∀ x, x < k + 1 → ¬ (U a x = true ∧ U b x = true ∧ ∀ j, j < n → U a j = true → U b j = true → U x j = true) from fun x hx hB => by
                  rcases Nat.lt_or_ge x k with h | h
                  · exact hall.out x h hB
                  · obtain rfl : x = k := by omega
                    obtain ⟨y, hy, e1, e2, e3⟩ := hgf.out rfl
                    have := hB.2.2 y hy e1 e2
                    rw [e3] at this; cases this)
                clear hgt hgf hall
                go_wp2_with fail
                refine ⟨⟨k + 1, ?ta, ?tb, Hn⟩, ?td⟩
                case ta => omega
                case tb => go_num
                case td => simp [intOf]; omega
            · obtain rfl : j = n := by omega
              cases g with
              | true =>
                have Hv := Lib.hid (Hyes.out k hlt ⟨H1.out, H2.out, fun x hx => hgt.out rfl x hx⟩)
                clear hgt hgf hall
                go_wp2_with fail
                go_ret2
                exact ⟨by rw [Hv.out]; rfl, hb1⟩
              | false =>
                have Hn := Lib.hid (show ∀ x, x < k + 1 → ¬ (U a x = true ∧ U b x = true ∧ ∀ y, y < j → U a y = true → U b y = true → U x y = true) from fun x hx hB => by
                  rcases Nat.lt_or_ge x k with h | h
                  · exact hall.out x h hB
                  · obtain rfl : x = k := by omega
                    obtain ⟨y, hy, e1, e2, e3⟩ := hgf.out rfl
                    have := hB.2.2 y hy e1 e2
                    rw [e3] at this; cases this)
                clear hgt hgf hall
                go_wp2_with fail
                refine ⟨⟨k + 1, ?sa, ?sb, Hn⟩, ?sd⟩
                case sa => omega
                case sb => go_num
                case sd => simp [intOf]; omega
        · have Ca' := Lib.hid (fun V hV => Hab.out B c' k a true V hV hlt ha h1)
          have Cb' := Lib.hid (fun V hV => Hab.out B c' k b false V hV hlt hbn (by simpa using h2))
          have Hn := Lib.hid (show ∀ x, x < k + 1 → ¬ (U a x = true ∧ U b x = true ∧ ∀ j, j < n → U a j = true → U b j = true → U x j = true) from fun x hx hB => by
            rcases Nat.lt_or_ge x k with h | h
            · exact hall.out x h hB
            · obtain rfl : x = k := by omega
              exact h2 hB.2.1)
          clear Ca Cb h1 h2 Hg hall
          go_wp2_with (first | (go_at_call 70; with_reducible refine (Ca'.out _ Hi.out).mono ?_; rintro e w' ⟨rfl, rfl⟩) | (go_at_call 70; with_reducible refine (Cb'.out _ Hi.out).mono ?_; rintro e w' ⟨rfl, rfl⟩))
          refine wp_loop_rounds 1 ?_
          rw [rounds_succ]
          go_wp2_with fail
          refine ⟨⟨k + 1, ?ra, ?rb, Hn⟩, ?rd⟩
          case ra => omega
          case rb => go_num
          case rd => simp [intOf]; omega
      · have Ca' := Lib.hid (fun V hV => Hab.out B c' k a false V hV hlt ha (by simpa using h1))
        have Hn := Lib.hid (show ∀ x, x < k + 1 → ¬ (U a x = true ∧ U b x = true ∧ ∀ j, j < n → U a j = true → U b j = true → U x j = true) from fun x hx hB => by
          rcases Nat.lt_or_ge x k with h | h
          · exact hall.out x h hB
          · obtain rfl : x = k := by omega
            exact h1 hB.1)
        clear Ca Cb h1 Hg hall
        go_wp2_with (go_at_call 70; with_reducible refine (Ca'.out _ Hi.out).mono ?_; rintro e w' ⟨rfl, rfl⟩)
        refine wp_loop_rounds 1 ?_
        rw [rounds_succ]
        go_wp2_with fail
        refine ⟨⟨k + 1, ?qa, ?qb, Hn⟩, ?qd⟩
        case qa => omega
        case qb => go_num
        case qd => simp [intOf]; omega
    · obtain rfl : k = n := by omega
      have Hv := Lib.hid (Hno.out fun x hx => hall.out x hx)
      clear hall
      go_wp2_with fail
      go_ret2
      exact ⟨by rw [Hv.out]; rfl, hb1⟩
end Go.Proofs.YtbdochaahbpabaaDoor
