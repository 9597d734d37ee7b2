/-
  Contract: quietwingref5.Number.
-/
import Derived.Test.YtanlmfnhlldkeaaGreatDoorBaseA
import Derived.Test.YtanlmfnhlldkeaaGreatDoorDigs
namespace Go.Proofs.YtanlmfnhlldkeaaGreatDoor
open Go.RowKit
set_option maxRecDepth 100000
set_option linter.unusedVariables false

/-- What Number tells. -/
def NumIs (l : List UInt8) (e : Ending) : Prop := ∃ (x : Int) (b : Bool), e = .returned (.tuple #[.int .i64 x, .bool b]) ∧ (∀ n, numV l = some n → b = true ∧ x = (n : Int)) ∧ (numV l = none → b = false)
theorem NumIs.no {l : List UInt8} {x : Int} (h : numV l = none) : NumIs l (.returned (.tuple #[.int .i64 x, .bool false])) := ⟨x, false, rfl, fun n hn => (by rw [h] at hn; cases hn), fun _ => rfl⟩
theorem valD_take {l : List UInt8} {k : Nat} (h : k < l.length) : valD (l.take (k + 1)) = valD (l.take k) * 10 + ((l.getD k 0).toNat - 48) := by
  rw [List.take_add_one, List.getElem?_eq_getElem h, Option.toList_some, valD_snoc, List.getD_eq_getElem?_getD, List.getElem?_eq_getElem h]
  rfl
theorem wrap_step {v x : Nat} (hv : v < 1000000000000000000) (hx1 : 48 ≤ x) (hx2 : x ≤ 57) : ∃ y1 y2 : Int, IntKind.i64.wrap ((v : Int) * 10) = y1 ∧ IntKind.i64.wrap (y1 + (x : Int)) = y2 ∧ IntKind.i64.wrap (y2 - 48) = IntKind.i64.wrap ((v * 10 + (x - 48) : Nat) : Int) ∧ wrap64 ((v : Int) * 10) = y1 ∧ wrap64 (y1 + (x : Int)) = y2 ∧ wrap64 (y2 - 48) = IntKind.i64.wrap ((v * 10 + (x - 48) : Nat) : Int) := by
  refine ⟨_, _, rfl, rfl, ?_, ?_, ?_, ?_⟩
  · rw [IntKind.wrap_i64, IntKind.wrap_i64, IntKind.wrap_i64, IntKind.wrap_i64]; omega
  · rw [IntKind.wrap_i64]; unfold wrap64; omega
  · rw [IntKind.wrap_i64, IntKind.wrap_i64]; unfold wrap64; omega
  · rw [IntKind.wrap_i64, IntKind.wrap_i64, IntKind.wrap_i64]; unfold wrap64; omega
set_option maxHeartbeats 4000000 in
theorem RNumber_any (s : ByteArray) (w : World) :
    Calls Tryz.prog 27 #[.string s] w fun e w' => NumIs s.data.toList e ∧ w = w' := by
  have hsz : s.data.toList.length = s.size := Array.length_toList ..
  have Hget := Lib.hid (fun k (hk : k < s.size) => show s.data.toList.getD k 0 = s[k]'hk by rw [List.getD_eq_getElem?_getD, Array.getElem?_toList, Array.getElem?_eq_getElem hk]; rfl)
  have Hl := Lib.hid (show s.data.toList = s.data.toList from rfl)
  obtain ⟨l, hl⟩ : ∃ l, s.data.toList = l := ⟨_, rfl⟩
  have HL := Lib.hid hl
  simp only [hl] at Hget hsz
  rw [hl]
  clear hl Hl
  by_cases h0 : s.size = 0
  · have hn : numV l = none := numV_iff.2 fun h => h.1 (List.length_eq_zero_iff.1 (by omega))
    have d0 : ((s.size : Int) == 0) = true := beq_iff_eq.2 (by omega)
    replace hsz := Lib.hid hsz
    clear h0
    go_enter Tryz.func27, Tryz.ntmps27
    go_wp2_with fail
    all_goals
      go_ret2
      exact ⟨NumIs.no hn, rfl⟩
  by_cases h19 : 19 < s.size
  · have hn : numV l = none := numV_iff.2 fun h => by have := h.2.1; omega
    have d0 : ((s.size : Int) == 0) = false := beq_eq_false_iff_ne.2 (by omega)
    have d1 : decide ((s.size : Int) > 19) = true := by simp; omega
    replace hsz := Lib.hid hsz
    clear h0
    go_enter Tryz.func27, Tryz.ntmps27
    go_wp2_with fail
    all_goals
      go_ret2
      exact ⟨NumIs.no hn, rfl⟩
  have d0 : ((s.size : Int) == 0) = false := beq_eq_false_iff_ne.2 (by omega)
  have d1 : decide ((s.size : Int) > 19) = false := by simp; omega
  have hne : l ≠ [] := fun e => h0 (by rw [← hsz, e]; rfl)
  replace hsz := Lib.hid hsz
  replace h0 := Lib.hid h0
  have h19' : s.size ≤ 19 := by omega
  clear h19
  go_enter Tryz.func27, Tryz.ntmps27
  go_wp2_with fail
  go_loopw [4, 5] (fun nv i wr => ∃ (k : Nat) (y : Int), k ≤ s.size ∧ i = .int .i64 k ∧ nv = .int .i64 y ∧ Hid (y = IntKind.i64.wrap ((valD (l.take k) : Nat) : Int)) ∧ Hid (∀ c ∈ l.take k, isD c = true) ∧ wr = w) (fun _ i _ => s.size - (intOf i).toNat)
  case atStart => exact ⟨0, 0, Nat.zero_le _, rfl, rfl, Lib.hid (by simp [valD, IntKind.wrap_i64]), Lib.hid (by simp), rfl⟩
  case round =>
    obtain ⟨k, y, hk, rfl, rfl, hy, hd, hwr⟩ := hrel
    have hwr2 : w = wr := hwr.symm
    clear hwr
    subst hwr2
    have hlt10 := Lib.hid (valD_lt _ hd.out)
    by_cases hks : k < s.size
    · have hv : valD (l.take k) < 1000000000000000000 := by
        have h1 := hlt10.out
        have h2 : (l.take k).length ≤ 18 := by rw [List.length_take]; omega
        exact Nat.lt_of_lt_of_le h1 (Nat.pow_le_pow_right (by decide) h2)
      have Htake := Lib.hid (valD_take (l := l) (k := k) (by have := hsz.out; omega))
      have hgk := Hget.out k hks
      obtain ⟨x, hx⟩ : ∃ x : Nat, (s[k]'hks).toNat = x := ⟨_, rfl⟩
      have hgx : (l.getD k 0).toNat = x := by rw [hgk, hx]
      rw [hgx] at Htake
      have Hmem := Lib.hid (show l.take (k + 1) = l.take k ++ [l.getD k 0] by rw [List.take_add_one, List.getD_eq_getElem?_getD, List.getElem?_eq_getElem (by have := hsz.out; omega)]; rfl)
      obtain ⟨v, hvv⟩ : ∃ v, valD (l.take k) = v := ⟨_, rfl⟩
      rw [hvv] at hy hv Htake
      obtain rfl : y = (v : Int) := by rw [hy.out, IntKind.wrap_i64]; omega
      clear hvv hlt10 hgk hy
      by_cases hdig : 48 ≤ x ∧ x ≤ 57
      · obtain ⟨y1, y2, e1, e2, e3, e4, e5, e6⟩ := wrap_step hv hdig.1 hdig.2
        have hd' := Lib.hid (show ∀ c ∈ l.take (k + 1), isD c = true by
          rw [Hmem.out]
          intro c hc
          rcases List.mem_append.1 hc with h | h
          · exact hd.out c h
          · rw [List.mem_singleton.1 h]
            unfold isD
            rw [hgx]
            simp only [decide_eq_true_eq]
            exact hdig)
        have hy' := Lib.hid (show IntKind.i64.wrap ((v * 10 + (x - 48) : Nat) : Int) = IntKind.i64.wrap ((valD (l.take (k + 1)) : Nat) : Int) by rw [Htake.out])
        generalize IntKind.i64.wrap ((v * 10 + (x - 48) : Nat) : Int) = y3 at *
        have t1 : decide ((x : Int) < 48) = false := by simp; omega
        have t2 : decide ((x : Int) > 57) = false := by simp; omega
        have e0 : wrap64 (x : Int) = (x : Int) := by unfold wrap64; omega
        clear hdig Htake Hmem hgx hv
        go_wp2_with fail
        refine ⟨⟨k + 1, y3, ?ya, ?yb, ?yc, hy', hd', trivial⟩, ?yd⟩
        case ya => omega
        case yb => go_num
        case yc => rfl
        case yd => simp [intOf]; omega
      · have hn : numV l = none := numV_iff.2 fun h => by
          have h3 := h.2.2.1 (l.getD k 0) (by rw [List.getD_eq_getElem?_getD, List.getElem?_eq_getElem (by have := hsz.out; omega)]; exact List.getElem_mem _)
          unfold isD at h3
          rw [hgx] at h3
          simp only [decide_eq_true_eq] at h3
          exact hdig h3
        clear Htake Hmem hgx hv
        by_cases hx48 : x < 48
        · have t1 : decide ((x : Int) < 48) = true := by simp; omega
          clear hdig
          go_wp2_with fail
          go_ret2
          exact ⟨NumIs.no hn, rfl⟩
        · have t1 : decide ((x : Int) < 48) = false := by simp; omega
          have t2 : decide ((x : Int) > 57) = true := by simp; omega
          clear hdig hx48
          go_wp2_with fail
          go_ret2
          exact ⟨NumIs.no hn, rfl⟩
    · obtain rfl : k = s.size := by omega
      have hall : l.take s.size = l := List.take_of_length_le (by have := hsz.out; omega)
      rw [hall] at hy hd hlt10
      have hl19 : valD l < 10000000000000000000 := Nat.lt_of_lt_of_le hlt10.out (Nat.pow_le_pow_right (n := 10) (by decide) (show l.length ≤ 19 by have := hsz.out; omega))
      by_cases hbig : valD l < 9223372036854775808
      · have hy2 : y = ((valD l : Nat) : Int) := by rw [hy.out, IntKind.wrap_i64]; omega
        have Hsome := Lib.hid (show numV l = if Lib.itoa (valD l : Int) = l then some (valD l) else none by
          unfold numV
          by_cases h : Lib.itoa (valD l : Int) = l
          · rw [if_pos ⟨hbig, h⟩, if_pos h]
          · rw [if_neg (fun hh => h hh.2), if_neg h])
        have CD := Digits_any w (valD l) (by omega)
        subst hy2
        clear hy hall hd hlt10 hl19
        obtain ⟨sd, hsd⟩ : ∃ sd, (⟨(Lib.itoa ((valD l : Nat) : Int)).toArray⟩ : ByteArray) = sd := ⟨_, rfl⟩
        have Hsd := Lib.hid (show sd.data.toList = Lib.itoa ((valD l : Nat) : Int) by rw [← hsd])
        rw [hsd] at CD
        have CD := Lib.hid CD
        clear hsd
        generalize valD l = v at *
        have t3 : decide ((v : Int) ≥ 0) = true := by simp
        by_cases heq : Lib.itoa (v : Int) = l
        · rw [if_pos heq] at Hsome
          have hse : sd = s := ByteArray.ext (Array.ext' (by rw [Hsd.out, heq, HL.out]))
          subst hse
          go_wp2_with fail
          with_reducible refine CD.out.mono ?_
          rintro e w' ⟨rfl, rfl⟩
          go_wp2_with fail
          go_ret2
          exact ⟨⟨(v : Int), true, by first | rfl | simp, fun n hn => (by rw [Hsome.out] at hn; injection hn with hn; subst hn; exact ⟨rfl, rfl⟩), fun hn => (by rw [Hsome.out] at hn; cases hn)⟩, rfl⟩
        · rw [if_neg heq] at Hsome
          have hse : ¬ sd.toList = s.toList := fun e => heq (by rw [Lib.toList_data, Lib.toList_data] at e; rw [← Hsd.out, e, HL.out])
          clear heq
          go_wp2_with fail
          with_reducible refine CD.out.mono ?_
          rintro e w' ⟨rfl, rfl⟩
          go_wp2_with fail
          go_ret2
          exact ⟨⟨(v : Int), false, by first | rfl | simp [hse], fun n hn => (by rw [Hsome.out] at hn; cases hn), fun hn => rfl⟩, rfl⟩
      · have hyn : y < 0 := by rw [hy.out, IntKind.wrap_i64]; omega
        have t3 : decide (y ≥ 0) = false := decide_eq_false (by omega)
        have hn : numV l = none := numV_iff.2 fun h => hbig h.2.2.2.1
        clear hy hall hd hlt10 hl19 hbig
        go_wp2_with fail
        go_ret2
        exact ⟨NumIs.no hn, rfl⟩
end Go.Proofs.YtanlmfnhlldkeaaGreatDoor
