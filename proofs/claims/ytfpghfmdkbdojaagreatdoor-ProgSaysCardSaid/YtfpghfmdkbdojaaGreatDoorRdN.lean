/-
  Contract: the reader's value, where the text is right.
  Contract: the reader's value, where the text is right: the walk.
  Contracts: the reader's block, one and list, where the text is right.
  Contract: prog.Read, where the text is right.
-/
import Derived.Test.YtfpghfmdkbdojaaGreatDoorRdA
import Derived.Test.YtfpghfmdkbdojaaGreatDoorItoa
import Derived.Lib.AtoiErrMem
import Derived.Lib.Strings
import Derived.Deep.LoopGhost
import Derived.Defers
import Derived.Recover
namespace Go.Proofs.YtfpghfmdkbdojaaGreatDoor
open Go.RowKit
set_option maxRecDepth 100000
set_option linter.unusedVariables false

/-- What a method leaves that read something. -/
def RdGood (r : Nat) (s : ByteArray) (i : Nat) (l : List UInt8) (o : List Int) (w : World) (e : Ending) (w' : World) : Prop :=
  e = .returned (.int .i64 i) ∧ ∃ p, p ≤ s.size ∧ s.data.toList.drop p = l ∧ o.length ≤ 400 ∧ RdTo r s p o w w'
theorem mk5_good {l l' : List UInt8} {o o' : List Int} {k n a b c : Int} {i m : Nat} (h : mk5 l o k n a b c = .good i l' o') (hl : o.length = m * 5) (ho : o.length ≤ 400) : m < 80 ∧ i = m ∧ l' = l ∧ o' = o ++ [k, n, a, b, c] ∧ o'.length ≤ 400 := by
  unfold mk5 at h
  split at h
  · cases h
  · rename_i hne
    injection h with h1 h2 h3
    refine ⟨by omega, by omega, h2.symm, h3.symm, ?_⟩
    rw [← h3, List.length_append]
    simp
    omega
theorem drop_cons {s : ByteArray} {p : Nat} {c : UInt8} {l : List UInt8} (h : s.data.toList.drop p = c :: l) : p < s.size ∧ peekV s p = (c.toNat : Int) ∧ s.data.toList.drop (p + 1) = l := by
  have hlt : p < s.data.toList.length := by
    rcases Nat.lt_or_ge p s.data.toList.length with h1 | h1
    · exact h1
    · rw [List.drop_eq_nil_of_le h1] at h; cases h
  rw [List.drop_eq_getElem_cons hlt] at h
  injection h with h1 h2
  refine ⟨by simpa using hlt, ?_, h2⟩
  unfold peekV
  rw [List.getD_eq_getElem?_getD, List.getElem?_eq_getElem hlt]
  show ((s.data.toList[p]).toNat : Int) = _
  rw [h1]
theorem peek_dig {s : ByteArray} {p : Nat} : (∃ c l, s.data.toList.drop p = c :: l ∧ isDig c = true) ↔ (48 ≤ peekV s p ∧ peekV s p ≤ 57) := by
  constructor
  · rintro ⟨c, l, h, hc⟩
    rw [(drop_cons h).2.1]
    have := of_decide_eq_true hc
    omega
  · intro h
    have hlt : p < s.size := by
      rcases Nat.lt_or_ge p s.size with h1 | h1
      · exact h1
      · rw [peekV_end h1] at h; omega
    have hd : s.data.toList.drop p = s.data.toList[p]'(by simpa using hlt) :: s.data.toList.drop (p + 1) := List.drop_eq_getElem_cons _
    refine ⟨_, _, hd, ?_⟩
    rw [(drop_cons hd).2.1] at h
    exact decide_eq_true (by omega)
/-- Where the digits end. -/
theorem digits_end {s : ByteArray} {p q : Nat} (hpq : p ≤ q) (hd : ∀ j, p ≤ j → j < q → 48 ≤ peekV s j ∧ peekV s j ≤ 57) (he : ¬ (48 ≤ peekV s q ∧ peekV s q ≤ 57)) :
    (s.data.toList.drop p).takeWhile isDig = (s.extract p q).data.toList ∧ (s.data.toList.drop p).dropWhile isDig = s.data.toList.drop q := by
  rw [Lib.extract_data]
  obtain ⟨m, rfl⟩ : ∃ m, q = p + m := ⟨q - p, by omega⟩
  rw [show p + m - p = m by omega]
  clear hpq
  induction m generalizing p with
  | zero =>
    rw [List.take_zero]
    cases hl : s.data.toList.drop p with
    | nil => exact ⟨rfl, rfl⟩
    | cons c l =>
      have hc : isDig c = false := by
        cases h : isDig c with
        | false => rfl
        | true => exact absurd (peek_dig.1 ⟨c, l, hl, h⟩) he
      rw [List.takeWhile_cons, List.dropWhile_cons, hc]
      exact ⟨rfl, rfl⟩
  | succ m ih =>
    obtain ⟨c, l, hl, hc⟩ := peek_dig.2 (hd p (Nat.le_refl _) (by omega))
    have h1 := (drop_cons hl).2.2
    have := ih (p := p + 1) (fun j h1 h2 => hd j (by omega) (by omega)) (by rw [show p + 1 + m = p + (m + 1) by omega]; exact he)
    rw [hl, List.takeWhile_cons, List.dropWhile_cons, hc, if_pos rfl, if_pos rfl, List.take_succ_cons, ← h1]
    rw [show p + 1 + m = p + (m + 1) by omega] at this
    exact ⟨by rw [this.1], this.2⟩
theorem numOf_some {d : List UInt8} {k : Nat} (h : numOf d = some k) : Lib.atoiAll d = .ok (k : Int) ∧ k ≤ 999999 ∧ Lib.itoa (k : Int) = d := by
  unfold numOf at h
  split at h
  · rename_i v hv
    split at h
    · rename_i hc
      injection h with h
      have : v = (k : Int) := by omega
      subst this
      exact ⟨hv, by omega, hc.2.2⟩
    · cases h
  · cases h
theorem bytes_eq {d : ByteArray} {l : List UInt8} (h : l = d.data.toList) : (⟨l.toArray⟩ : ByteArray) = d := by
  subst h
  cases d
  simp
theorem Itoa_at {r : Nat} {w0 w : World} (hP : Pow10 r w0) (hb : Below r w0 w) {k : Nat} (hk : k ≤ 999999) {d : ByteArray} (hd : Lib.itoa (k : Int) = d.data.toList) :
    Calls Tryz.prog 31 #[.int .i64 k] w fun e w' => e = .returned (.string d) ∧ Below w.heap.size w w' := by
  have h := Itoa_any (k : Int) (by omega) w (hP w hb)
  rw [bytes_eq hd] at h
  exact h
theorem Atoi_at {k : Nat} {d : ByteArray} (hd : Lib.atoiAll d.data.toList = .ok (k : Int)) (hs : d.size ≤ 300) (w : World) :
    Calls Tryz.prog 63 #[.string d] w fun e w' => e = .returned (.tuple #[.int .i64 k, .nilIface]) ∧ Below w.heap.size w w' := by
  refine (Tryz.strconv_Atoi_ok d (by omega) (k : Int) hd w).mono ?_
  rintro e w' ⟨he, hw | ⟨t, hw⟩⟩
  · subst hw; exact ⟨he, Below.refl _ _⟩
  · subst hw; exact ⟨he, Lib.bytesWorld_below _ _ _⟩
theorem extract_size (s : ByteArray) {a b : Nat} (h : b ≤ s.size) : (s.extract a b).size ≤ s.size := by
  rw [ByteArray.size_extract]; omega
theorem peekV_byte (s : ByteArray) (p : Nat) : 0 ≤ peekV s p ∧ peekV s p ≤ 255 := by
  unfold peekV
  have := (s.data.toList.getD p 0).toNat_lt
  omega
theorem byte_back (c : UInt8) : ((c.toNat : Int)).toNat.toUInt8 = c := by
  rw [Int.toNat_natCast]
  exact UInt8.toNat_inj.1 (by simp)
theorem idx_some {c : UInt8} {k : Nat} (h : opOf c = some k) : (2 ≤ k ∧ k ≤ 4) ∧ Lib.indexByte [43, 60, 61] c = ((k - 2 : Nat) : Int) := by
  unfold opOf at h
  split at h
  · rename_i e; injection h with h; subst e; subst h; exact ⟨by decide, rfl⟩
  split at h
  · rename_i e; injection h with h; subst e; subst h; exact ⟨by decide, rfl⟩
  split at h
  · rename_i e; injection h with h; subst e; subst h; exact ⟨by decide, rfl⟩
  · cases h
theorem idx_none {c : UInt8} (h : opOf c = none) : Lib.indexByte [43, 60, 61] c = -1 := by
  unfold opOf at h
  split at h
  · cases h
  split at h
  · cases h
  split at h
  · cases h
  · rename_i h1 h2 h3
    simp [Lib.indexByte, Ne.symm h1, Ne.symm h2, Ne.symm h3]
end Go.Proofs.YtfpghfmdkbdojaaGreatDoor

namespace Go.Proofs.YtfpghfmdkbdojaaGreatDoor
open Go.RowKit
set_option maxRecDepth 100000
set_option linter.unusedVariables false

set_option maxHeartbeats 8000000 in
theorem value_good {r : Nat} {s : ByteArray} (hs : s.size ≤ 300) {w0 : World} (hP : Pow10 r w0) : ∀ (f : Nat) (w : World) (p n : Nat) (v : Value) (o : List Int) (i : Nat) (l' : List UInt8) (o' : List Int), RdAt w r s p n v o → Below r w0 w → p ≤ s.size → o.length ≤ 400 → pValue f (s.data.toList.drop p) o = .good i l' o' →
    Calls Tryz.prog 52 #[.pointer (some ⟨r, 0, none⟩)] w (RdGood r s i l' o' w) := by
  intro f
  induction f with
  | zero => intro w p n v o i l' o' _ _ _ _ h; cases h
  | succ f ih =>
    intro w p n v o i l' o' hR hb0 hp ho h
    cases hd : s.data.toList.drop p with
    | nil => rw [hd] at h; cases h
    | cons c l =>
      obtain ⟨hlt, hpk, hdl⟩ := drop_cons hd
      rw [hd, pValue] at h
      have CN := next_any hR hs (by omega)
      rw [hpk] at CN
      have CN := Lib.hid CN
      cases hop : opOf c with
      | some k =>
        rw [hop] at h
        dsimp only at h
        cases hv1 : pValue f l o with
        | bad e => rw [hv1] at h; cases h
        | good a l1 o1 =>
          rw [hv1] at h
          dsimp only [PR.andThen] at h
          cases hv2 : pValue f l1 o1 with
          | bad e => rw [hv2] at h; cases h
          | good b l2 o2 =>
            rw [hv2] at h
            obtain ⟨hk, hix⟩ := idx_some hop
            obtain ⟨j, rfl⟩ : ∃ j, k = j + 2 := ⟨k - 2, by omega⟩
            rw [show j + 2 - 2 = j by omega] at hix
            have CI := Lib.hid (fun V => show Calls Tryz.prog 62 #[.string ⟨#[43, 60, 61]⟩, .int .u8 (c.toNat : Int)] V (fun e w' => e = .returned (.int .i64 (j : Int)) ∧ V = w') from (Tryz.strings_IndexByte ⟨#[43, 60, 61]⟩ (c.toNat : Int) V).mono fun e w' ⟨he, hw⟩ => ⟨by rw [he, byte_back]; exact congrArg (fun x => Ending.returned (.int .i64 x)) hix, hw.symm⟩)
            have H := Lib.hid h
            have Hv1 := Lib.hid hv1
            have Hv2 := Lib.hid hv2
            have Hd := Lib.hid hdl
            have hj2 : j ≤ 2 := by omega
            clear h hv1 hv2 hop hix hd hpk hdl hk
            generalize (c.toNat : Int) = x at *
            go_enter Tryz.func52, Tryz.ntmps52
            go_wp2_with (first | (go_at_call 51; with_reducible refine CN.out.mono ?_; rintro e w1 ⟨rfl, h1, hb1⟩) | (go_at_call 62; with_reducible refine (CI.out _).mono ?_; rintro e w' ⟨rfl, rfl⟩))
            refine (ih w1 (p + 1) n v o a l1 o1 h1 (hb0.trans hb1) (by omega) ho (by rw [Hd.out]; exact Hv1.out)).mono ?_
            rintro e w2 ⟨rfl, p2, hp2, hd2, ho2, ⟨n2, v2, h2⟩, hb2⟩
            have Hd2 := Lib.hid hd2
            clear hd2
            go_wp2_with fail
            refine (ih w2 p2 n2 v2 o1 b l2 o2 h2 ((hb0.trans hb1).trans hb2) hp2 ho2 (by rw [Hd2.out]; exact Hv2.out)).mono ?_
            rintro e w3 ⟨rfl, p3, hp3, hd3, ho3, ⟨n3, v3, h3⟩, hb3⟩
            obtain ⟨hm, rfl, rfl, rfl, hlen⟩ := mk5_good H.out h3.own.1 ho3
            have CNd := Lib.hid (node_good h3 hm ((j + 2 : Nat) : Int) 0 a b 0)
            have hj : (2 : Int) + (j : Int) = ((j + 2 : Nat) : Int) := by omega
            have Hd3 := Lib.hid hd3
            have Hlen := Lib.hid hlen
            clear hd3 ih hlen
            rw [← hj] at CNd
            clear hj
            go_wp2_with fail
            refine CNd.out.mono ?_
            rintro e w4 ⟨rfl, hr4, hb4⟩
            go_wp2_with fail
            go_ret
            exact ⟨rfl, p3, hp3, Hd3.out, Hlen.out, by first | exact hr4 | (rw [show ((j + 2 : Nat) : Int) = 2 + (j : Int) by omega]; exact hr4), ((hb1.trans hb2).trans hb3).trans hb4⟩
      | none =>
        rw [hop] at h
        dsimp only at h
        have CI := Lib.hid (fun V => show Calls Tryz.prog 62 #[.string ⟨#[43, 60, 61]⟩, .int .u8 (c.toNat : Int)] V (fun e w' => e = .returned (.int .i64 (-1)) ∧ V = w') from (Tryz.strings_IndexByte ⟨#[43, 60, 61]⟩ (c.toNat : Int) V).mono fun e w' ⟨he, hw⟩ => ⟨by rw [he, byte_back]; exact congrArg (fun x => Ending.returned (.int .i64 x)) (idx_none hop), hw.symm⟩)
        by_cases hc : c = 35
        · subst hc
          rw [if_pos rfl] at h
          cases hn : numOf (l.takeWhile isDig) with
          | none => rw [hn] at h; cases h
          | some k =>
            rw [hn] at h
            dsimp only at h
            obtain ⟨hat, hk, hit⟩ := numOf_some hn
            rw [← hdl] at h hat hit
            obtain ⟨p1, hp1⟩ : ∃ p1, p + 1 = p1 := ⟨_, rfl⟩
            rw [hp1] at h hat hit CN
            have hp1s : p1 ≤ s.size := by omega
            have H := Lib.hid h
            have Hat := Lib.hid hat
            have Hit := Lib.hid hit
            have d35 : (((35 : UInt8).toNat : Int) != 35) = false := by decide
            clear h hn hop hd hpk hdl ih hat hit hp1 hlt
            generalize ((35 : UInt8).toNat : Int) = x at *
            go_enter Tryz.func52, Tryz.ntmps52
            go_wp2_with (first | (go_at_call 51; with_reducible refine CN.out.mono ?_; rintro e w1 ⟨rfl, h1, hb1⟩; have x1 := h1.at_) | (go_at_call 62; with_reducible refine (CI.out _).mono ?_; rintro e w' ⟨rfl, rfl⟩))
            clear x1
            go_loopg [] (s.size + 1) (fun m wr => ∃ (q n1 : Nat) (v1 : Value), s.size - q < m ∧ p1 ≤ q ∧ q ≤ s.size ∧ RdAt wr r s q n1 v1 o ∧ Below r w wr ∧ Hid (∀ j, p1 ≤ j → j < q → 48 ≤ peekV s j ∧ peekV s j ≤ 57))
            case atStart => exact ⟨p1, _, _, by omega, Nat.le_refl _, hp1s, h1, hb1, Lib.hid (fun j h1 h2 => by omega)⟩
            case round =>
              clear h1 hb1
              obtain ⟨q, n1, v1, hqm, hpq, hqs, h1, hb1, hdg⟩ := hrel
              have CP := Lib.hid (peek_any h1 hs (by omega))
              obtain ⟨hx0, hx1⟩ := peekV_byte s q
              by_cases hq : 48 ≤ peekV s q ∧ peekV s q ≤ 57
              · have CW := Lib.hid (fun V => within_is (peekV s q) 48 57 true (decide_eq_true hq) V)
                have hqs2 : q < s.size := by
                  rcases Nat.lt_or_ge q s.size with h2 | h2
                  · exact h2
                  · rw [peekV_end h2] at hq; omega
                have Hdg := Lib.hid (show ∀ j, p1 ≤ j → j < q + 1 → 48 ≤ peekV s j ∧ peekV s j ≤ 57 from fun j h1 h2 => by
                  rcases Nat.lt_or_ge j q with h3 | h3
                  · exact hdg.out j h1 h3
                  · obtain rfl : j = q := by omega
                    exact hq)
                clear hdg hq
                generalize peekV s q = y at *
                go_wp2_with (first | (go_at_call 61; with_reducible refine CP.out.mono ?_; rintro e w2 ⟨rfl, h2, hb2⟩; have x1 := h2.at_; have f1 := h2.box.free 1) | (go_at_call 16; with_reducible refine (CW.out _).mono ?_; rintro e w' ⟨rfl, rfl⟩))
                go_roundg (s.size - q)
                case measure => omega
                case rel => exact ⟨q + 1, _, _, by omega, by omega, by omega, h2.move (q + 1), (hb1.trans (hb2.mono (Nat.le_of_lt h1.lt))).setCell (Nat.le_refl r) _, Hdg⟩
              · have CW := Lib.hid (fun V => within_is (peekV s q) 48 57 false (decide_eq_false hq) V)
                obtain ⟨he1, he2⟩ := digits_end hpq hdg.out hq
                have H2 := H.out
                have Hat2 := Hat.out
                have Hit2 := Hit.out
                rw [he2] at H2
                rw [he1] at Hat2 Hit2
                have HH := Lib.hid H2
                have CA := Lib.hid (fun V => Atoi_at Hat2 (Nat.le_trans (extract_size s hqs) hs) V)
                have CT := Lib.hid (fun V (hV : Below r w0 V) => Itoa_at hP hV hk Hit2)
                have hq0 : (0 : Int) ≤ (p1 : Int) := by omega
                have hq1 : (p1 : Int) ≤ (q : Int) := by omega
                have hq2 : (q : Int) ≤ (s.size : Int) := by omega
                have dk : decide ((k : Int) > 999999) = false := by simp; omega
                have dk2 : decide (999999 < k) = false := by simp; omega
                clear hdg hq H Hat Hit H2 Hat2 Hit2 he1 he2
                generalize peekV s q = y at *
                go_wp2_with (first | (go_at_call 61; with_reducible refine CP.out.mono ?_; rintro e w2 ⟨rfl, h2, hb2⟩; have x0 := h2.text; have x1 := h2.at_) | (go_at_call 16; with_reducible refine (CW.out _).mono ?_; rintro e w' ⟨rfl, rfl⟩))
                go_quiet (fail)
                have h3 := h2.drewN nq
                have hb3 := hb1.trans ((belowD hb2 nq).mono (Nat.le_of_lt h1.lt))
                clear h2 hb2 x0 x1 CP CW
                generalize s.extract p1 q = dg at *
                generalize w2.drewN nq = w3 at *
                go_wp2_with fail
                with_reducible refine (CA.out _).mono ?_
                rintro e w4 ⟨rfl, hb4⟩
                have h4 := h3.below hb4
                have hb4' := hb3.trans (hb4.mono (Nat.le_of_lt h3.lt))
                have CT4 := Lib.hid (CT.out w4 (hb0.trans hb4'))
                clear CA CT
                go_wp2_with (go_at_call 31; with_reducible refine CT4.out.mono ?_; rintro e w5 ⟨rfl, hb5⟩)
                have h5 := h4.below hb5
                have hb5' := hb4'.trans (hb5.mono (Nat.le_of_lt h4.lt))
                obtain ⟨hm, rfl, rfl, rfl, hlen⟩ := mk5_good HH.out h5.own.1 ho
                have Hlen := Lib.hid hlen
                clear hlen CT4
                refine (node_good h5 hm 0 k 0 0 0).mono ?_
                rintro e w6 ⟨rfl, hr6, hb6⟩
                go_wp2_with fail
                go_ret
                exact ⟨rfl, q, hqs, rfl, Hlen.out, hr6, hb5'.trans hb6⟩
        · rw [if_neg hc] at h
          cases hn : nameOf c with
          | none => rw [hn] at h; cases h
          | some k =>
            rw [hn] at h
            dsimp only at h
            have d35 : ((c.toNat : Int) != 35) = true := by
              have : c.toNat ≠ 35 := fun e => hc (UInt8.toNat_inj.1 e)
              simp
              omega
            have CM := Lib.hid (fun V => name_good hn r V)
            have H := Lib.hid h
            have Hd := Lib.hid hdl
            clear h hn hop hd hpk hdl hc ih
            generalize (c.toNat : Int) = x at *
            go_enter Tryz.func52, Tryz.ntmps52
            go_wp2_with (first | (go_at_call 51; with_reducible refine CN.out.mono ?_; rintro e w1 ⟨rfl, h1, hb1⟩) | (go_at_call 62; with_reducible refine (CI.out _).mono ?_; rintro e w' ⟨rfl, rfl⟩) | (go_at_call 54; with_reducible refine (CM.out _).mono ?_; rintro e w' ⟨rfl, rfl⟩))
            obtain ⟨hm, rfl, rfl, rfl, hlen⟩ := mk5_good H.out h1.own.1 ho
            have Hlen := Lib.hid hlen
            clear hlen
            refine (node_good h1 hm 1 k 0 0 0).mono ?_
            rintro e w4 ⟨rfl, hr4, hb4⟩
            go_wp2_with fail
            go_ret
            exact ⟨rfl, p + 1, by omega, Hd.out, Hlen.out, hr4, hb1.trans hb4⟩
end Go.Proofs.YtfpghfmdkbdojaaGreatDoor

namespace Go.Proofs.YtfpghfmdkbdojaaGreatDoor
open Go.RowKit
set_option maxRecDepth 100000
set_option linter.unusedVariables false

theorem pWant_good {c : UInt8} {l : List UInt8} {o : List Int} {F : List UInt8 → List Int → PR} {i : Nat} {l' : List UInt8} {o' : List Int} (h : pWant c l o F = .good i l' o') : ∃ r, l = c :: r ∧ F r o = .good i l' o' := by
  unfold pWant at h
  cases l with
  | nil => cases h
  | cons x r =>
    dsimp only at h
    split at h
    · rename_i e; subst e; exact ⟨r, rfl, h⟩
    · cases h
theorem andThen_good {a : PR} {F : Nat → List UInt8 → List Int → PR} {i : Nat} {l' : List UInt8} {o' : List Int} (h : a.andThen F = .good i l' o') : ∃ i1 l1 o1, a = .good i1 l1 o1 ∧ F i1 l1 o1 = .good i l' o' := by
  cases a with
  | bad e => cases h
  | good i1 l1 o1 => exact ⟨i1, l1, o1, rfl, h⟩
/-- What list does with fuel f, where the text is right. -/
def ListGood (r : Nat) (s : ByteArray) (w0 : World) (f : Nat) : Prop := ∀ (w : World) (p n : Nat) (v : Value) (o : List Int) (i : Nat) (l' : List UInt8) (o' : List Int), RdAt w r s p n v o → Below r w0 w → p ≤ s.size → o.length ≤ 400 → pList f (s.data.toList.drop p) o = .good i l' o' →
    Calls Tryz.prog 27 #[.pointer (some ⟨r, 0, none⟩)] w (RdGood r s i l' o' w)
section
variable {w w0 : World} {r : Nat} {s : ByteArray} {p n f : Nat} {v : Value} {o : List Int}
theorem want_at {c : UInt8} {x : Int} {l : List UInt8} (hx : (c.toNat : Int) = x) (h : RdAt w r s p n v o) (hs : s.size ≤ 300) (hp : p ≤ s.size) (hd : s.data.toList.drop p = c :: l) :
    Calls Tryz.prog 55 #[.pointer (some ⟨r, 0, none⟩), .int .u8 x] w fun e w' => e = .returned (.tuple #[]) ∧ RdAt w' r s (p + 1) n v o ∧ Below r w w' := by
  subst hx
  exact want_good (l := l) h hs (by omega) (drop_cons hd).2.1

set_option maxHeartbeats 4000000 in
theorem block_good {i : Nat} {l' : List UInt8} {o' : List Int} (hs : s.size ≤ 300) (HL : ListGood r s w0 f) (hR : RdAt w r s p n v o) (hb0 : Below r w0 w) (hp : p ≤ s.size) (ho : o.length ≤ 400) (h : pBlock (pList f) (s.data.toList.drop p) o = .good i l' o') :
    Calls Tryz.prog 53 #[.pointer (some ⟨r, 0, none⟩)] w (RdGood r s i l' o' w) := by
  obtain ⟨l1, hd, h⟩ := pWant_good h
  obtain ⟨i1, l2, o1, hl, h⟩ := andThen_good h
  obtain ⟨l3, hd2, h⟩ := pWant_good h
  injection h with e1 e2 e3
  subst e1; subst e2; subst e3
  have C1 := Lib.hid (want_at (x := 123) rfl hR hs hp hd)
  have Hd := Lib.hid (drop_cons hd).2.2
  have hlt := (drop_cons hd).1
  have Hl := Lib.hid hl
  have Hd2 := Lib.hid hd2
  have HLh := Lib.hid HL
  clear hd hl hd2 hR HL
  go_enter Tryz.func53, Tryz.ntmps53
  go_wp2_with fail
  refine C1.out.mono ?_
  rintro e w1 ⟨rfl, h1, hb1⟩
  go_wp2_with fail
  refine (HLh.out w1 (p + 1) n v o i1 l2 o1 h1 (hb0.trans hb1) (by omega) ho (by rw [Hd.out]; exact Hl.out)).mono ?_
  rintro e w2 ⟨rfl, p2, hp2, hd2, ho2, ⟨n2, v2, h2⟩, hb2⟩
  have hd3 : s.data.toList.drop p2 = 125 :: l3 := by rw [hd2]; exact Hd2.out
  have C2 := Lib.hid (want_at (x := 125) rfl h2 hs hp2 hd3)
  have Hd3 := Lib.hid (drop_cons hd3).2.2
  have hlt2 := (drop_cons hd3).1
  clear hd2 hd3 C1
  go_wp2_with fail
  refine C2.out.mono ?_
  rintro e w3 ⟨rfl, h3, hb3⟩
  go_wp2_with fail
  go_ret
  exact ⟨rfl, p2 + 1, by omega, Hd3.out, ho2, ⟨_, _, h3⟩, (hb1.trans hb2).trans hb3⟩
set_option maxHeartbeats 8000000 in
theorem one_good {i : Nat} {l' : List UInt8} {o' : List Int} (hs : s.size ≤ 300) (hP : Pow10 r w0) (HL : ListGood r s w0 f) (hR : RdAt w r s p n v o) (hb0 : Below r w0 w) (hp : p ≤ s.size) (ho : o.length ≤ 400) (h : pOne (pValue f) (pList f) (s.data.toList.drop p) o = .good i l' o') :
    Calls Tryz.prog 39 #[.pointer (some ⟨r, 0, none⟩)] w (RdGood r s i l' o' w) := by
  have HV := Lib.hid (value_good hs hP f)
  have HB := Lib.hid (fun (w : World) (p n : Nat) (v : Value) (o : List Int) (i : Nat) (l' : List UInt8) (o' : List Int) (hR : RdAt w r s p n v o) (hb : Below r w0 w) (hp : p ≤ s.size) (ho : o.length ≤ 400) (h : pBlock (pList f) (s.data.toList.drop p) o = .good i l' o') => block_good hs HL hR hb hp ho h)
  cases hd : s.data.toList.drop p with
  | nil => rw [hd] at h; cases h
  | cons c l =>
    obtain ⟨hlt, hpk, hdl⟩ := drop_cons hd
    rw [hd] at h
    unfold pOne at h
    dsimp only at h
    have CN := next_any hR hs (by omega)
    rw [hpk] at CN
    have CN := Lib.hid CN
    have Hd := Lib.hid hdl
    clear hd hpk hdl HL hR hP
    by_cases h63 : c = 63
    · subst h63
      rw [if_pos rfl] at h
      obtain ⟨a, l1, o1, hv, h⟩ := andThen_good h
      obtain ⟨b, l2, o2, hb, h⟩ := andThen_good h
      obtain ⟨d, l3, o3, hc, h⟩ := andThen_good h
      have Hv := Lib.hid hv
      have Hb := Lib.hid hb
      have Hc := Lib.hid hc
      have H := Lib.hid h
      have dq : (((63 : UInt8).toNat : Int) == 63) = true := by decide
      clear hv hb hc h
      generalize ((63 : UInt8).toNat : Int) = x at *
      go_enter Tryz.func39, Tryz.ntmps39
      go_wp2_with (go_at_call 51; with_reducible refine CN.out.mono ?_; rintro e w1 ⟨rfl, h1, hb1⟩)
      refine (HV.out w1 (p + 1) n v o a l1 o1 h1 (hb0.trans hb1) (by omega) ho (by rw [Hd.out]; exact Hv.out)).mono ?_
      rintro e w2 ⟨rfl, p2, hp2, hd2, ho2, ⟨n2, v2, h2⟩, hb2⟩
      have Hd2 := Lib.hid hd2
      clear hd2
      go_wp2_with fail
      refine (HB.out w2 p2 n2 v2 o1 b l2 o2 h2 ((hb0.trans hb1).trans hb2) hp2 ho2 (by rw [Hd2.out]; exact Hb.out)).mono ?_
      rintro e w3 ⟨rfl, p3, hp3, hd3, ho3, ⟨n3, v3, h3⟩, hb3⟩
      have Hd3 := Lib.hid hd3
      clear hd3
      go_wp2_with fail
      refine (HB.out w3 p3 n3 v3 o2 d l3 o3 h3 (((hb0.trans hb1).trans hb2).trans hb3) hp3 ho3 (by rw [Hd3.out]; exact Hc.out)).mono ?_
      rintro e w4 ⟨rfl, p4, hp4, hd4, ho4, ⟨n4, v4, h4⟩, hb4⟩
      have Hd4 := Lib.hid hd4
      clear hd4
      obtain ⟨hm, rfl, rfl, rfl, hlen⟩ := mk5_good H.out h4.own.1 ho4
      have Hlen := Lib.hid hlen
      clear hlen
      go_wp2_with fail
      refine (node_good h4 hm 8 0 a b d).mono ?_
      rintro e w5 ⟨rfl, hr5, hb5⟩
      go_wp2_with fail
      go_ret
      exact ⟨rfl, p4, hp4, Hd4.out, Hlen.out, hr5, (((hb1.trans hb2).trans hb3).trans hb4).trans hb5⟩
    rw [if_neg h63] at h
    have d63 : ((c.toNat : Int) == 63) = false := by
      have : c.toNat ≠ 63 := fun e => h63 (UInt8.toNat_inj.1 e)
      simp
      omega
    by_cases h64 : c = 64
    · subst h64
      rw [if_pos rfl] at h
      obtain ⟨a, l1, o1, hv, h⟩ := andThen_good h
      obtain ⟨b, l2, o2, hb, h⟩ := andThen_good h
      have Hv := Lib.hid hv
      have Hb := Lib.hid hb
      have H := Lib.hid h
      have dq : (((64 : UInt8).toNat : Int) == 64) = true := by decide
      clear hv hb h h63
      generalize ((64 : UInt8).toNat : Int) = x at *
      go_enter Tryz.func39, Tryz.ntmps39
      go_wp2_with (go_at_call 51; with_reducible refine CN.out.mono ?_; rintro e w1 ⟨rfl, h1, hb1⟩)
      refine (HV.out w1 (p + 1) n v o a l1 o1 h1 (hb0.trans hb1) (by omega) ho (by rw [Hd.out]; exact Hv.out)).mono ?_
      rintro e w2 ⟨rfl, p2, hp2, hd2, ho2, ⟨n2, v2, h2⟩, hb2⟩
      have Hd2 := Lib.hid hd2
      clear hd2
      go_wp2_with fail
      refine (HB.out w2 p2 n2 v2 o1 b l2 o2 h2 ((hb0.trans hb1).trans hb2) hp2 ho2 (by rw [Hd2.out]; exact Hb.out)).mono ?_
      rintro e w3 ⟨rfl, p3, hp3, hd3, ho3, ⟨n3, v3, h3⟩, hb3⟩
      have Hd3 := Lib.hid hd3
      clear hd3
      obtain ⟨hm, rfl, rfl, rfl, hlen⟩ := mk5_good H.out h3.own.1 ho3
      have Hlen := Lib.hid hlen
      clear hlen
      go_wp2_with fail
      refine (node_good h3 hm 9 0 a b 0).mono ?_
      rintro e w4 ⟨rfl, hr4, hb4⟩
      go_wp2_with fail
      go_ret
      exact ⟨rfl, p3, hp3, Hd3.out, Hlen.out, hr4, ((hb1.trans hb2).trans hb3).trans hb4⟩
    rw [if_neg h64] at h
    have d64 : ((c.toNat : Int) == 64) = false := by
      have : c.toNat ≠ 64 := fun e => h64 (UInt8.toNat_inj.1 e)
      simp
      omega
    cases hn : nameOf c with
    | none => rw [hn] at h; cases h
    | some k =>
      rw [hn] at h
      dsimp only at h
      obtain ⟨l1, hd1, h⟩ := pWant_good h
      obtain ⟨a, l2, o2, hv, h⟩ := andThen_good h
      obtain ⟨l3, hd3, h⟩ := pWant_good h
      have CM := Lib.hid (fun V => name_good hn r V)
      have Hv := Lib.hid hv
      have H := Lib.hid h
      have Hd1 := Lib.hid hd1
      have Hd3 := Lib.hid hd3
      clear hv h hd1 hd3 hn h63 h64 HB
      generalize (c.toNat : Int) = x at *
      go_enter Tryz.func39, Tryz.ntmps39
      go_wp2_with (first | (go_at_call 51; with_reducible refine CN.out.mono ?_; rintro e w1 ⟨rfl, h1, hb1⟩) | (go_at_call 54; with_reducible refine (CM.out _).mono ?_; rintro e w' ⟨rfl, rfl⟩))
      have hdA : s.data.toList.drop (p + 1) = 61 :: l1 := by rw [Hd.out]; exact Hd1.out
      refine (want_at (x := 61) rfl h1 hs (by omega) hdA).mono ?_
      rintro e w2 ⟨rfl, h2, hb2⟩
      have HdA := Lib.hid (drop_cons hdA).2.2
      have hltA := (drop_cons hdA).1
      clear hdA
      go_wp2_with fail
      refine (HV.out w2 (p + 1 + 1) n v o a l2 o2 h2 ((hb0.trans hb1).trans hb2) (by omega) ho (by rw [HdA.out]; exact Hv.out)).mono ?_
      rintro e w3 ⟨rfl, p3, hp3, hd3, ho3, ⟨n3, v3, h3⟩, hb3⟩
      have hdB : s.data.toList.drop p3 = 59 :: l3 := by rw [hd3]; exact Hd3.out
      clear hd3
      have C3 := Lib.hid (want_at (x := 59) rfl h3 hs hp3 hdB)
      have HdB := Lib.hid (drop_cons hdB).2.2
      have hltB := (drop_cons hdB).1
      clear hdB
      go_wp2_with fail
      refine C3.out.mono ?_
      rintro e w4 ⟨rfl, h4, hb4⟩
      obtain ⟨hm, rfl, rfl, rfl, hlen⟩ := mk5_good H.out h4.own.1 ho3
      have Hlen := Lib.hid hlen
      clear hlen
      go_wp2_with fail
      refine (node_good h4 hm 6 k a 0 0).mono ?_
      rintro e w5 ⟨rfl, hr5, hb5⟩
      go_wp2_with fail
      go_ret
      exact ⟨rfl, p3 + 1, by omega, HdB.out, Hlen.out, hr5, (((hb1.trans hb2).trans hb3).trans hb4).trans hb5⟩
end
set_option maxHeartbeats 8000000 in
theorem list_good {r : Nat} {s : ByteArray} (hs : s.size ≤ 300) {w0 : World} (hP : Pow10 r w0) : ∀ f, ListGood r s w0 f := by
  intro f
  induction f with
  | zero => intro w p n v o i l' o' _ _ _ _ h; cases h
  | succ f ih =>
    intro w p n v o i l' o' hR hb0 hp ho h
    rw [pList] at h
    have CE := Lib.hid (fun b hb => ends_any hR hs (by omega) (b := b) hb)
    by_cases he : endsL (s.data.toList.drop p) = true
    · rw [if_pos he] at h
      have CE1 := Lib.hid (CE.out true he)
      have H := Lib.hid h
      clear CE he h ih
      go_enter Tryz.func27, Tryz.ntmps27
      go_wp2_with (go_at_call 37; with_reducible refine CE1.out.mono ?_; rintro e w1 ⟨rfl, h1, hb1⟩)
      obtain ⟨hm, rfl, rfl, rfl, hlen⟩ := mk5_good H.out h1.own.1 ho
      have Hlen := Lib.hid hlen
      clear hlen
      refine (node_good h1 hm 5 0 0 0 0).mono ?_
      rintro e w2 ⟨rfl, hr2, hb2⟩
      go_wp2_with fail
      go_ret
      exact ⟨rfl, p, hp, rfl, Hlen.out, hr2, (hb1.mono (Nat.le_of_lt hR.lt)).trans hb2⟩
    · rw [if_neg he] at h
      obtain ⟨a, l1, o1, h1, h⟩ := andThen_good h
      have CE1 := Lib.hid (CE.out false (by simpa using he))
      have HO := Lib.hid (fun V (hV : RdAt V r s p n v o) (hb : Below r w0 V) => one_good hs hP ih hV hb hp ho h1)
      have Hih := Lib.hid ih
      have H := Lib.hid h
      have hlt := hR.lt
      clear CE he h h1 ih
      go_enter Tryz.func27, Tryz.ntmps27
      go_wp2_with (go_at_call 37; with_reducible refine CE1.out.mono ?_; rintro e w1 ⟨rfl, h1, hb1⟩)
      have hb1' := hb1.mono (Nat.le_of_lt hlt)
      refine (HO.out _ h1 (hb0.trans hb1')).mono ?_
      rintro e w2 ⟨rfl, p2, hp2, hd2, ho2, ⟨n2, v2, h2⟩, hb2⟩
      have Hd2 := Lib.hid hd2
      have CE2 := Lib.hid (fun b hb => ends_any h2 hs (by omega) (b := b) hb)
      have h' := H.out
      clear hd2 CE1 HO
      by_cases he2 : endsL l1 = true
      · rw [if_pos he2] at h'
        injection h' with e1 e2 e3
        subst e1; subst e2; subst e3
        have CE3 := Lib.hid (CE2.out true (by rw [Hd2.out]; exact he2))
        clear CE2 he2
        go_wp2_with (go_at_call 37; with_reducible refine CE3.out.mono ?_; rintro e w3 ⟨rfl, h3, hb3⟩)
        go_ret
        exact ⟨rfl, p2, hp2, Hd2.out, ho2, ⟨_, _, h3⟩, (hb1'.trans hb2).trans (hb3.mono (Nat.le_of_lt h2.lt))⟩
      · rw [if_neg he2] at h'
        obtain ⟨b, l2, o2, hv, h'⟩ := andThen_good h'
        have CE3 := Lib.hid (CE2.out false (by rw [Hd2.out]; simpa using he2))
        have Hv := Lib.hid hv
        have H2 := Lib.hid h'
        clear CE2 he2 hv h' H
        go_wp2_with (go_at_call 37; with_reducible refine CE3.out.mono ?_; rintro e w3 ⟨rfl, h3, hb3⟩)
        have hb3' := hb3.mono (Nat.le_of_lt h2.lt)
        refine (Hih.out w3 p2 n2 v2 o1 b l2 o2 h3 (((hb0.trans hb1').trans hb2).trans hb3') hp2 ho2 (by rw [Hd2.out]; exact Hv.out)).mono ?_
        rintro e w4 ⟨rfl, p4, hp4, hd4, ho4, ⟨n4, v4, h4⟩, hb4⟩
        have Hd4 := Lib.hid hd4
        clear hd4
        obtain ⟨hm, rfl, rfl, rfl, hlen⟩ := mk5_good H2.out h4.own.1 ho4
        have Hlen := Lib.hid hlen
        clear hlen
        go_wp2_with fail
        refine (node_good h4 hm 7 0 a b 0).mono ?_
        rintro e w5 ⟨rfl, hr5, hb5⟩
        go_wp2_with fail
        go_ret
        exact ⟨rfl, p4, hp4, Hd4.out, Hlen.out, hr5, (((hb1'.trans hb2).trans hb3').trans hb4).trans hb5⟩
end Go.Proofs.YtfpghfmdkbdojaaGreatDoor

namespace Go.Proofs.YtfpghfmdkbdojaaGreatDoor
open Go.RowKit
set_option maxRecDepth 100000
set_option linter.unusedVariables false

theorem catch_idle (p q : Addr) (w : World) :
    CallsD Tryz.prog 26 #[.pointer (some p), .pointer (some q)] .returning w fun e u' w' => e = .returned (.tuple #[]) ∧ u' = .returning ∧ w' = w := by
  refine callsD_of_wpS Tryz.func26 rfl fun c₀ cs hu => ?_
  apply wpS_seq
  apply wpS_region
  simp [wpOpsS, go_sem, recoverD, hu, Tryz.ntmps26, Exit.thenS]
  refine wpS_of_wp ?_
  go_wp2
  cases c₀
  simp_all [bodyPostS, results, Tryz.results26]
/-- What Read gives of a text that is right. -/
def ReadGood (o : List Int) (w : World) (e : Ending) (w' : World) : Prop := (∃ A n c, e = .returned (.tuple #[.slice A n c, .nilIface]) ∧ o.length = n * 5 ∧ n ≤ c ∧ IntsAt w' A o) ∧ Below w.heap.size w w'
theorem ownsRow_cap' {w : World} {base size n c : Nat} {e : TypeId} {A : Option Addr} {xs : List Value} (h : w.ownsRow base e size (.slice A n c) n xs) : n ≤ c := by
  rcases h.2 with ⟨h0, h1⟩ | ⟨g, cap, cur, hv, hb, hg, hnc, _⟩
  · omega
  · injection hv with _ _ h3
    omega
set_option maxHeartbeats 8000000 in
theorem Read_good {s : ByteArray} (hs : s.size ≤ 300) {w : World} (hP : Pow10 w.heap.size w) {f i : Nat} {o : List Int} (h : pList f s.data.toList [] = .good i [] o) :
    Calls Tryz.prog 10 #[.string s] w (ReadGood o w) := by
  have hmf : ∀ (fn : Fn) (first cap : Array Value) (w : World), (Instr.makeFunc fn first cap).run Tryz.prog w = .ok (.func fn first cap) w := fun _ _ _ _ => rfl
  have hs2 : (s.size : Int) ≤ 300 := by omega
  have d300 : decide ((s.size : Int) > 300) = false := by simp; omega
  have d300' : decide (300 < s.size) = false := by simp; omega
  have hb1 := (Below.refl w.heap.size w).alloc (Nat.le_refl _) (.cells #[.slice none 0 0] 22)
  have hs1 : (w.alloc (.cells #[.slice none 0 0] 22)).heap.size = w.heap.size + 1 := by simp
  have hc1 := BoxN.new w 22 #[.slice none 0 0]
  have hb2 := hb1.alloc hb1.size (.cells #[.nilIface] 26)
  have hs2 : ((w.alloc (.cells #[.slice none 0 0] 22)).alloc (.cells #[.nilIface] 26)).heap.size = w.heap.size + 1 + 1 := by simp
  have hc2 : BoxN ((w.alloc (.cells #[.slice none 0 0] 22)).alloc (.cells #[.nilIface] 26)) (w.heap.size + 1) 26 #[.nilIface] := by
    have := BoxN.new (w.alloc (.cells #[.slice none 0 0] 22)) 26 #[.nilIface]
    rw [hs1] at this
    exact this
  have hc1' := hc1.alloc (.cells #[.nilIface] 26)
  have hc3 : BoxN (((w.alloc (.cells #[.slice none 0 0] 22)).alloc (.cells #[.nilIface] 26)).alloc (.cells #[.string s, .int .i64 0, .slice none 0 0] 64)) (w.heap.size + 1 + 1) 64 #[.string s, .int .i64 ((0 : Nat) : Int), .slice none 0 0] := by
    have := BoxN.new ((w.alloc (.cells #[.slice none 0 0] 22)).alloc (.cells #[.nilIface] 26)) 64 #[.string s, .int .i64 ((0 : Nat) : Int), .slice none 0 0]
    rw [hs2] at this
    exact this
  have hb3 := hb2.alloc hb2.size (.cells #[.string s, .int .i64 0, .slice none 0 0] 64)
  have hcA := hc1'.alloc (.cells #[.string s, .int .i64 0, .slice none 0 0] 64)
  have hcB := hc2.alloc (.cells #[.string s, .int .i64 0, .slice none 0 0] 64)
  have H := Lib.hid h
  have HP := Lib.hid hP
  clear hs1 hs2 hc1 hc2 hc1' hb1 hb2 h hP
  go_enter_defers Tryz.func10, Tryz.ntmps10
  go_wp2_with fail
  generalize ((w.alloc (.cells #[.slice none 0 0] 22)).alloc (.cells #[.nilIface] 26)).alloc (.cells #[.string s, .int .i64 0, .slice none 0 0] 64) = w3 at *
  have hR : RdAt w3 (w.heap.size + 1 + 1) s 0 0 (.slice none 0 0) [] := ⟨hc3, OwnN.nil _ _⟩
  have hlt := hR.lt
  have hP3 : Pow10 (w.heap.size + 1 + 1) w3 := HP.out.next hb3 (by omega) (Nat.le_refl _)
  refine (list_good (r := w.heap.size + 1 + 1) hs hP3 f w3 0 0 _ [] i [] o hR (Below.refl _ _) (Nat.zero_le _) (Nat.zero_le _) H.out).mono ?_
  rintro e w4 ⟨rfl, p4, hp4, hd4, ho4, ⟨n4, v4, h4⟩, hb4⟩
  obtain rfl : p4 = s.size := by
    have := congrArg List.length hd4
    rw [List.length_drop, List.length_nil] at this
    have h2 : s.data.toList.length = s.size := by simp
    omega
  obtain ⟨A4, c4, rfl⟩ := h4.own.form
  have x1 := h4.at_
  have x2 := h4.out
  have yA := (hcA.below hb4 (by omega)).cell (k := 0) rfl
  have fA := (hcA.below hb4 (by omega)).free 0
  have yB := (hcB.below hb4 (by omega)).cell (k := 0) rfl
  have fB := (hcB.below hb4 (by omega)).free 0
  have z0 := ((hcA.below hb4 (by omega)).set 0 (.slice A4 n4 c4)).cell (k := 0) rfl
  have z1 := (((hcB.below hb4 (by omega)).other (a := ⟨w.heap.size, 0, none⟩) (by show w.heap.size + 1 ≠ w.heap.size; omega) (.slice A4 n4 c4)).set 0 .nilIface).cell (k := 0) rfl
  have Z0 := Lib.hid z0
  have Z1 := Lib.hid z1
  clear z0 z1
  have hlen := h4.own.1
  have hown := h4.own.2
  have hbw := hb3.trans (hb4.mono (by omega))
  clear hc3 hcA hcB hd4 hb4 hb3 hP3 hR
  have Hlen := Lib.hid hlen
  have Hown := Lib.hid hown
  clear hlen hown h4
  go_wp2_with fail
  refine leaves_cons (f := 26) (args := #[.pointer (some ⟨w.heap.size, 0, none⟩), .pointer (some ⟨w.heap.size + 1, 0, none⟩)]) (by simp) (by simp [go_sem]) ?_
  refine (catch_idle _ _ _).mono ?_
  rintro e u' w'' ⟨rfl, rfl, rfl⟩
  have z0 : (w4.setCell ⟨w.heap.size, 0, none⟩ (.slice A4 n4 c4)).cell? ⟨w.heap.size, 0, none⟩ = some (.slice A4 n4 c4) := Z0.out
  have z1 : ((w4.setCell ⟨w.heap.size, 0, none⟩ (.slice A4 n4 c4)).setCell ⟨w.heap.size + 1, 0, none⟩ .nilIface).cell? ⟨w.heap.size + 1, 0, none⟩ = some .nilIface := Z1.out
  have hgood : ReadGood o w (.returned (.tuple #[.slice A4 n4 c4, .nilIface])) ((w4.setCell ⟨w.heap.size, 0, none⟩ (.slice A4 n4 c4)).setCell ⟨w.heap.size + 1, 0, none⟩ .nilIface) := by
    have hI := (CellsAt.own (ownsRow_far1 (t := 3) (vs := #[]) (b := w.heap.size + 1) (k := 0) (ownsRow_far1 (t := 3) (vs := #[]) (b := w.heap.size) (k := 0) Hown.out (by omega) (.slice A4 n4 c4)) (by omega) .nilIface)).ints
    exact ⟨⟨A4, n4, c4, rfl, Hlen.out, ownsRow_cap' Hown.out, hI⟩, (hbw.setCell (Nat.le_refl _) _).setCell (Nat.le_succ _) _⟩
  have HG := Lib.hid hgood
  clear hgood
  simp [Leaves, settle, results, Tryz.results10, go_sem, z0, z1]
  exact HG.out
end Go.Proofs.YtfpghfmdkbdojaaGreatDoor
