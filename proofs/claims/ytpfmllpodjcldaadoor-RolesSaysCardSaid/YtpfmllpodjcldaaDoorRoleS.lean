/-
  Contract: quietwingref1.Needed.
-/
import Derived.Test.YtpfmllpodjcldaaDoorRoleN
import Derived.Test.YtpfmllpodjcldaaDoorRoleR
namespace Go.Proofs.YtpfmllpodjcldaaDoor
open Go.RowKit
set_option maxRecDepth 100000
set_option linter.unusedVariables false

section
variable {r M : List Nat} {mine want : Nat}
theorem needTo_first (t : Nat) : ∀ b : Nat, needTo r M mine want t = (b : Int) → ∀ s, s < b → willDo r M mine want s = true → cnt 8 b < cnt 8 s := by
  induction t with
  | zero => intro b h; have h : (-1 : Int) = b := h; omega
  | succ t ih =>
    intro b h s hs hd
    have h : needStep r M mine want (needTo r M mine want t) t = b := h
    unfold needStep at h
    split at h
    · rename_i hc
      obtain rfl : t = b := by omega
      rcases needTo_law (r := r) (M := M) (mine := mine) (want := want) t with ⟨h1, h2⟩ | ⟨b, h1, h2, h3, h4⟩
      · rw [h2 s hs] at hd; cases hd
      · rw [h1, Int.toNat_natCast] at hc
        have hc2 := (Bool.and_eq_true_iff.1 hc).2
        have h5 := h4 s hs hd
        rcases Bool.or_eq_true_iff.1 hc2 with h6 | h6
        · have := of_decide_eq_true h6; omega
        · have := of_decide_eq_true h6; omega
    · exact ih b h s hs hd
/-- A hit in the reference's order is the set that Need tells. -/
theorem needTo_hit {P k s : Nat} (hs : s < P) (hd : willDo r M mine want s = true) (hk : cnt 8 s = k)
    (hlow : ∀ x, x < P → willDo r M mine want x = true → k ≤ cnt 8 x) (hin : ∀ x, x < s → willDo r M mine want x = true → cnt 8 x ≠ k) :
    needTo r M mine want P = (s : Int) := by
  rcases needTo_law (r := r) (M := M) (mine := mine) (want := want) P with ⟨h1, h2⟩ | ⟨b, h1, h2, h3, h4⟩
  · rw [h2 s hs] at hd; cases hd
  · have h5 := h4 s hs hd
    have h6 := hlow b h2 h3
    have h7 : cnt 8 b = k := by omega
    rcases Nat.lt_trichotomy b s with h | h | h
    · exact absurd h7 (hin b h h3)
    · rw [h1, h]
    · have := needTo_first P b h1 s h hd; omega
theorem needTo_miss {P : Nat} (h : ∀ x, x < P → willDo r M mine want x = true → 9 ≤ cnt 8 x) (h8 : ∀ x, cnt 8 x ≤ 8) : needTo r M mine want P = -1 := by
  rcases needTo_law (r := r) (M := M) (mine := mine) (want := want) P with ⟨h1, h2⟩ | ⟨b, h1, h2, h3, h4⟩
  · exact h1
  · have := h b h2 h3; have := h8 b; omega
end
section
variable {w : World} {Au Aa Am : Option Addr} {nu nm cu ca cm : Nat} {few most : Int} {r M : List Nat}
set_option maxHeartbeats 8000000 in
theorem RNeeded_any (hlen : r.length ≤ 8) (hb : Bd r.length r) (hA : IntsAt w Aa (castL r)) (hM : M.length = r.length) (hMb : ∀ i, row M i < 2 ^ 10) (hMi : IntsAt w Am (castL M)) {s : Nat} (hs : s < 2 ^ r.length) {want : Nat} (hwant : want < 1024) {res : Int} (hres : needTo r M (allS r s) want (2 ^ r.length) = res) {v : Value} (hv : v = if res < 0 then .tuple #[.int .i64 0, .bool false] else .tuple #[.int .i64 res, .bool true]) :
    Calls Tryd.prog 26 #[.agg #[.slice Au nu cu, .slice Aa r.length ca, .slice Am M.length cm, .int .i64 few, .int .i64 most], .int .i64 s, .int .i64 want] w fun e w' => e = .returned v ∧ Below w.heap.size w w' := by
  have hb0 : Below w.heap.size w (w.alloc (.cells #[.slice Au nu cu, .slice Aa r.length ca, .slice Am M.length cm, .int .i64 few, .int .i64 most] 47)) := (Below.refl _ _).alloc (Nat.le_refl _) _
  have hx0 := BoxN.new w 47 #[.slice Au nu cu, .slice Aa r.length ca, .slice Am M.length cm, .int .i64 few, .int .i64 most]
  have HC := Lib.hid (fun V (hV : Below w.heap.size w V) => (RRoleSet_any (Au := Au) (nu := nu) (cu := cu) (ca := ca) (nm := M.length) (Am := Am) (cm := cm) (few := few) (most := most) hlen hb (hA.below hV) hs).mono fun e w' ⟨he, hx⟩ => (⟨he, hx, hV.trans (hx.mono hV.size)⟩ : _ ∧ Below V.heap.size V w' ∧ Below w.heap.size w w'))
  have HT := Lib.hid (fun x (hx : x < 2 ^ r.length) V (hV : Below w.heap.size w V) => (RTaskSet_any (Au := Au) (nu := nu) (cu := cu) (ca := ca) (M := M) (Am := Am) (cm := cm) (few := few) (most := most) hlen hb (hA.below hV) hM hMb (hMi.below hV) hx).mono fun e w' ⟨he, hx⟩ => (⟨he, hx, hV.trans (hx.mono hV.size)⟩ : _ ∧ Below V.heap.size V w' ∧ Below w.heap.size w w'))
  have hal := allS_lt hlen hb s
  have hp8 : 2 ^ r.length ≤ 256 := Nat.pow_le_pow_right (n := 2) (by decide) hlen
  have htl := Lib.hid (fun x => taskS_lt (r := r) (s := x) hMb)
  have HP2 := Lib.hid (fun V => Pow2_any r.length V (by omega))
  have Hres := Lib.hid hres
  have Hv := Lib.hid hv
  clear hs hb hA hM hMb hMi hres hv
  generalize allS r s = mine at *
  generalize 2 ^ r.length = P at *
  generalize r.length = n at *
  generalize M.length = k0 at *
  go_enter Tryd.func26, Tryd.ntmps26
  go_wp2_with fail
  refine (HC.out _ hb0).mono ?_
  rintro e w1 ⟨rfl, hb1, hbw⟩
  have hx1 := hx0.all hb1
  have hs1 := hbw.size
  clear HC hb0 hb1 hx0
  go_wp2_with fail
  go_loopw [9] (fun i wr => ∃ k : Nat, k ≤ 9 ∧ i = .int .i64 k ∧ Hid (∀ x, x < P → willDo r M mine want x = true → k ≤ cnt 8 x) ∧ Below w1.heap.size w1 wr) (fun i _ => 9 - (intOf i).toNat)
  case atStart => exact ⟨0, by omega, rfl, Lib.hid (fun _ _ _ => Nat.zero_le _), Below.refl _ _⟩
  case round =>
    obtain ⟨k, hk, rfl, hlow, hbr⟩ := hrel
    by_cases hk9 : k < 9
    · have hkI : (k : Int) ≤ 8 := by omega
      generalize wr = wo at *
      have hso := hbr.size
      go_wp2_with fail
      go_loopw [10] (fun i wr => ∃ x : Nat, x ≤ P ∧ i = .int .i64 x ∧ Hid (∀ y, y < x → willDo r M mine want y = true → cnt 8 y ≠ k) ∧ Below wo.heap.size wo wr) (fun i _ => P - (intOf i).toNat)
      case atStart => exact ⟨0, Nat.zero_le _, rfl, Lib.hid (fun _ h => by omega), Below.refl _ _⟩
      case round =>
        obtain ⟨x, hx, rfl, hin, hbq⟩ := hrel
        have hbo := hbr.trans (hbq.mono hso)
        have hbwr := hbw.trans (hbo.mono hs1)
        have hxr := hx1.all hbo
        have e0 : wr.cell? ⟨w.heap.size, 0, none⟩ = some (.slice Au nu cu) := hxr.cell rfl
        have e1 : wr.cell? ⟨w.heap.size, 1, none⟩ = some (.slice Aa n ca) := hxr.cell rfl
        have e2 : wr.cell? ⟨w.heap.size, 2, none⟩ = some (.slice Am k0 cm) := hxr.cell rfl
        have e3 : wr.cell? ⟨w.heap.size, 3, none⟩ = some (.int .i64 few) := hxr.cell rfl
        have e4 : wr.cell? ⟨w.heap.size, 4, none⟩ = some (.int .i64 most) := hxr.cell rfl
        by_cases hlt : x < P
        · have hxP : (x : Int) < P := by omega
          have Q1 := Lib.hid (fun V => RMany_any x (by omega) V)
          have Hno := Lib.hid (fun (h : willDo r M mine want x = true → cnt 8 x ≠ k) (y : Nat) (hy : y < x + 1) (hd : willDo r M mine want y = true) => show cnt 8 y ≠ k from by
            rcases Nat.lt_or_ge y x with h1 | h1
            · exact hin.out y h1 hd
            · obtain rfl : y = x := by omega
              exact h hd)
          have HTt := Lib.hid (HT.out x hlt wr hbwr)
          have htk := htl.out x
          have Hhit := Lib.hid (fun (hd : willDo r M mine want x = true) (hc : cnt 8 x = k) => needTo_hit hlt hd hc hlow.out hin.out)
          by_cases hc : cnt 8 x = k
          · have hcI : (cnt 8 x : Int) = k := by omega
            cases hw1 : within x mine with
            | true =>
              have C1 := Lib.hid (fun V => Within_is x mine true V (by omega) (by omega) hw1)
              cases hw2 : within want (taskS r M x) with
              | true =>
                have C2 := Lib.hid (fun V => Within_is want (taskS r M x) true V (by omega) (by omega) hw2)
                have h1 := Hhit.out (by unfold willDo; rw [hw1, hw2]; rfl) hc
                have Hr := Lib.hid (show v = .tuple #[.int .i64 x, .bool true] from Hv.out.trans (by rw [← Hres.out, h1]; exact if_neg (by omega)))
                clear Hno Hhit hw1 hw2 h1 hc hlow hin
                generalize taskS r M x = tk at *
                generalize cnt 8 x = c1 at *
                go_wp2_with (first | (go_at_call 58; with_reducible refine (HP2.out _).mono ?_; rintro e w' ⟨rfl, rfl⟩) | (go_at_call 48; with_reducible refine (Q1.out _).mono ?_; rintro e w' ⟨rfl, rfl⟩) | (go_at_call 29; with_reducible refine (C1.out _).mono ?_; rintro e w' ⟨rfl, rfl⟩))
                refine HTt.out.mono ?_
                rintro e w3 ⟨rfl, hb3, hbw3⟩
                go_wp2_with (go_at_call 29; with_reducible refine (C2.out _).mono ?_; rintro e w' ⟨rfl, rfl⟩)
                go_ret2
                exact ⟨by rw [Hr.out]; rfl, hbw3⟩
              | false =>
                have C2 := Lib.hid (fun V => Within_is want (taskS r M x) false V (by omega) (by omega) hw2)
                have Hn := Lib.hid (Hno.out (fun h => by unfold willDo at h; rw [hw1, hw2] at h; cases h))
                clear Hno Hhit hw1 hw2 hc hlow hin
                generalize taskS r M x = tk at *
                generalize cnt 8 x = c1 at *
                go_wp2_with (first | (go_at_call 58; with_reducible refine (HP2.out _).mono ?_; rintro e w' ⟨rfl, rfl⟩) | (go_at_call 48; with_reducible refine (Q1.out _).mono ?_; rintro e w' ⟨rfl, rfl⟩) | (go_at_call 29; with_reducible refine (C1.out _).mono ?_; rintro e w' ⟨rfl, rfl⟩))
                refine HTt.out.mono ?_
                rintro e w3 ⟨rfl, hb3, hbw3⟩
                go_wp2_with (go_at_call 29; with_reducible refine (C2.out _).mono ?_; rintro e w' ⟨rfl, rfl⟩)
                refine ⟨⟨x + 1, ?va, ?vb, Hn.out, hbq.trans (hb3.mono hbq.size)⟩, ?vd⟩
                case va => omega
                case vb => go_num
                case vd => simp [intOf]; omega
            | false =>
              have C1 := Lib.hid (fun V => Within_is x mine false V (by omega) (by omega) hw1)
              have Hn := Lib.hid (Hno.out (fun h => by unfold willDo at h; rw [hw1] at h; cases h))
              clear Hno Hhit hw1 hc hlow hin
              generalize cnt 8 x = c1 at *
              go_wp2_with (first | (go_at_call 58; with_reducible refine (HP2.out _).mono ?_; rintro e w' ⟨rfl, rfl⟩) | (go_at_call 48; with_reducible refine (Q1.out _).mono ?_; rintro e w' ⟨rfl, rfl⟩) | (go_at_call 29; with_reducible refine (C1.out _).mono ?_; rintro e w' ⟨rfl, rfl⟩))
              refine ⟨⟨x + 1, ?va, ?vb, Hn.out, hbq⟩, ?vd⟩
              case va => omega
              case vb => go_num
              case vd => simp [intOf]; omega
          · have hcI : ¬ (cnt 8 x : Int) = k := by omega
            have hcd : decide ((cnt 8 x : Int) = k) = false := decide_eq_false hcI
            have Hn := Lib.hid (Hno.out (fun _ => hc))
            clear Hno Hhit hlow hin
            generalize cnt 8 x = c1 at *
            go_wp2_with (first | (go_at_call 58; with_reducible refine (HP2.out _).mono ?_; rintro e w' ⟨rfl, rfl⟩) | (go_at_call 48; with_reducible refine (Q1.out _).mono ?_; rintro e w' ⟨rfl, rfl⟩))
            refine ⟨⟨x + 1, ?va, ?vb, Hn.out, hbq⟩, ?vd⟩
            case va => omega
            case vb => go_num
            case vd => simp [intOf]; omega
        · obtain rfl : x = P := by omega
          have Hn := Lib.hid (fun (y : Nat) (hy : y < x) (hd : willDo r M mine want y = true) => show k + 1 ≤ cnt 8 y from by
            have h1 := hlow.out y hy hd
            have h2 := hin.out y hy hd
            omega)
          clear hlow hin
          go_wp2_with (go_at_call 58; with_reducible refine (HP2.out _).mono ?_; rintro e w' ⟨rfl, rfl⟩)
          refine ⟨⟨k + 1, ?va, ?vb, Hn, hbo⟩, ?vd⟩
          case va => omega
          case vb => go_num
          case vd => simp [intOf]; omega
    · obtain rfl : k = 9 := by omega
      have Hr := Lib.hid (show v = .tuple #[.int .i64 0, .bool false] from Hv.out.trans (by rw [← Hres.out, needTo_miss hlow.out cnt8_le]; rfl))
      clear hlow
      go_wp2_with fail
      go_ret2
      exact ⟨by rw [Hr.out]; rfl, hbw.trans (hbr.mono hs1)⟩
end
end Go.Proofs.YtpfmllpodjcldaaDoor
