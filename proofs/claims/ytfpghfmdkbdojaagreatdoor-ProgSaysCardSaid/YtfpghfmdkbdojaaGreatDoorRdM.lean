/-
  The reader where the text is wrong: its small methods; what is read grows shorter.
  Contract: the reader's value, where the text is wrong.
  Contracts: the reader's block, one and list, where the text is wrong.
  Contract: prog.Read, where the text is wrong.
  Contract: prog.Read, whole.
-/
import Derived.Test.YtfpghfmdkbdojaaGreatDoorRdN
import Derived.WalkLawsBesides
import Derived.Lib.SmallJoins
import Derived.RegionTactic
import Derived.ChangeAlike
namespace Go.Proofs.YtfpghfmdkbdojaaGreatDoor
open Go.RowKit
set_option maxRecDepth 100000
set_option linter.unusedVariables false

/-- What is thrown. -/
def chainOf (k : Int) : List PanicEntry := [{ v := .iface 62 (.agg #[.int .i64 k]), recovered := false }]
def RdBad (r : Nat) (k : Nat) (w : World) (e : Ending) (w' : World) : Prop := e = .panicked (chainOf k) ∧ Below r w w'
theorem RdBad.trans {r k : Nat} {w w1 w2 : World} {e : Ending} (h : Below r w w1) (g : RdBad r k w1 e w2) : RdBad r k w e w2 := ⟨g.1, h.trans g.2⟩
theorem fail_any (r : Addr) (k : Int) (w : World) : Calls Tryz.prog 28 #[.pointer (some r), .int .i64 k] w fun e w' => e = .panicked (chainOf k) ∧ w = w' := by
  go_enter Tryz.func28, Tryz.ntmps28
  go_wp2
  exact ⟨rfl, rfl, rfl⟩
section
variable {w : World} {r : Nat} {s : ByteArray} {p n : Nat} {v : Value} {o : List Int}
theorem name_bad {x : Int} (hx : ¬ (97 ≤ x ∧ x ≤ 102)) (h0 : 0 ≤ x) (h1 : x ≤ 255) (r : Nat) (w : World) :
    Calls Tryz.prog 54 #[.pointer (some ⟨r, 0, none⟩), .int .u8 x] w (RdBad r 2 w) := by
  have C := Lib.hid (within_is x 97 102 false (decide_eq_false hx))
  clear hx
  go_enter Tryz.func54, Tryz.ntmps54
  go_wp2_with (go_at_call 16; with_reducible refine (C.out _).mono ?_; rintro e w' ⟨rfl, rfl⟩)
  refine (fail_any _ 2 _).mono ?_
  rintro e w' ⟨rfl, rfl⟩
  exact ⟨rfl, rfl, Below.refl _ _⟩
set_option maxHeartbeats 2000000 in
theorem want_bad {x : Int} (h : RdAt w r s p n v o) (hs : s.size ≤ 300) (hp : p ≤ 400) (hc : peekV s p ≠ x) :
    Calls Tryz.prog 55 #[.pointer (some ⟨r, 0, none⟩), .int .u8 x] w (RdBad r 2 w) := by
  have C := Lib.hid (next_any h hs hp)
  have dx : (peekV s p != x) = true := by simpa using hc
  clear h hc
  generalize peekV s p = y at *
  go_enter Tryz.func55, Tryz.ntmps55
  go_wp2_with (go_at_call 51; with_reducible refine C.out.mono ?_; rintro e w1 ⟨rfl, h1, hb1⟩)
  refine (fail_any _ 2 _).mono ?_
  rintro e w' ⟨rfl, rfl⟩
  exact ⟨rfl, rfl, hb1⟩
set_option maxHeartbeats 2000000 in
theorem node_bad (h : RdAt w r s p 80 v o) (k0 k1 k2 k3 k4 : Int) :
    Calls Tryz.prog 38 #[.pointer (some ⟨r, 0, none⟩), .agg #[.int .i64 k0, .int .i64 k1, .int .i64 k2, .int .i64 k3, .int .i64 k4]] w (RdBad r 4 w) := by
  obtain ⟨A, c, rfl⟩ := h.own.form
  have hr := h.lt
  have hb := (Below.refl w.heap.size w).alloc (Nat.le_refl _) (.cells #[.int .i64 k0, .int .i64 k1, .int .i64 k2, .int .i64 k3, .int .i64 k4] 39)
  have x2 : (w.alloc (.cells #[.int .i64 k0, .int .i64 k1, .int .i64 k2, .int .i64 k3, .int .i64 k4] 39)).cell? ⟨r, 2, none⟩ = some (.slice A 80 c) := (h.below hb).out
  have hb1 := Lib.hid (hb.mono (Nat.le_of_lt hr))
  clear h hb
  go_enter Tryz.func38, Tryz.ntmps38
  go_wp2_with fail
  refine (fail_any _ 4 _).mono ?_
  rintro e w' ⟨rfl, rfl⟩
  exact ⟨rfl, rfl, hb1.out⟩
end

theorem mk5_bad {l : List UInt8} {o : List Int} {k n a b c : Int} {e m : Nat} (h : mk5 l o k n a b c = .bad e) (hl : o.length = m * 5) : m = 80 ∧ e = 4 := by
  unfold mk5 at h
  split at h
  · injection h with h; exact ⟨by omega, h.symm⟩
  · cases h
theorem mk5_len {l l' : List UInt8} {o o' : List Int} {k n a b c : Int} {i : Nat} (h : mk5 l o k n a b c = .good i l' o') : l' = l := by
  unfold mk5 at h
  split at h
  · cases h
  · injection h with h1 h2 h3; exact h2.symm
theorem pValue_short : ∀ {f : Nat} {l : List UInt8} {o : List Int} {i : Nat} {l' : List UInt8} {o' : List Int}, pValue f l o = .good i l' o' → l'.length < l.length
  | 0, l, o, i, l', o', h => by cases h
  | f + 1, [], o, i, l', o', h => by cases h
  | f + 1, c :: r, o, i, l', o', h => by
    rw [pValue] at h
    split at h
    · obtain ⟨a, l1, o1, h1, h⟩ := andThen_good h
      obtain ⟨b, l2, o2, h2, h⟩ := andThen_good h
      have e1 := pValue_short h1
      have e2 := pValue_short h2
      rw [mk5_len h]
      simp only [List.length_cons]
      omega
    · split at h
      · split at h
        · rw [mk5_len h]
          have := (List.dropWhile_sublist (l := r) isDig).length_le
          simp only [List.length_cons]
          omega
        · cases h
      · split at h
        · rw [mk5_len h]; simp
        · cases h
theorem pBlock_short {L : List UInt8 → List Int → PR} (hL : ∀ {l : List UInt8} {o : List Int} {i : Nat} {l' : List UInt8} {o' : List Int}, L l o = .good i l' o' → l'.length ≤ l.length) {l : List UInt8} {o : List Int} {i : Nat} {l' : List UInt8} {o' : List Int} (h : pBlock L l o = .good i l' o') : l'.length < l.length := by
  obtain ⟨r, rfl, h⟩ := pWant_good h
  obtain ⟨i1, l1, o1, h1, h⟩ := andThen_good h
  obtain ⟨l2, rfl, h⟩ := pWant_good h
  injection h with e1 e2 e3
  subst e2
  have := hL h1
  simp only [List.length_cons] at *
  omega
theorem pOne_short {f : Nat} {L : List UInt8 → List Int → PR} (hL : ∀ {l : List UInt8} {o : List Int} {i : Nat} {l' : List UInt8} {o' : List Int}, L l o = .good i l' o' → l'.length ≤ l.length) {l : List UInt8} {o : List Int} {i : Nat} {l' : List UInt8} {o' : List Int} (h : pOne (pValue f) L l o = .good i l' o') : l'.length < l.length := by
  unfold pOne at h
  cases l with
  | nil => cases h
  | cons c r =>
    dsimp only at h
    simp only [List.length_cons]
    split at h
    · obtain ⟨a, l1, o1, h1, h⟩ := andThen_good h
      obtain ⟨b, l2, o2, h2, h⟩ := andThen_good h
      obtain ⟨d, l3, o3, h3, h⟩ := andThen_good h
      have e1 := pValue_short h1
      have e2 := pBlock_short hL h2
      have e3 := pBlock_short hL h3
      rw [mk5_len h]; omega
    · split at h
      · obtain ⟨a, l1, o1, h1, h⟩ := andThen_good h
        obtain ⟨b, l2, o2, h2, h⟩ := andThen_good h
        have e1 := pValue_short h1
        have e2 := pBlock_short hL h2
        rw [mk5_len h]; omega
      · split at h
        · obtain ⟨r1, rfl, h⟩ := pWant_good h
          obtain ⟨a, l1, o1, h1, h⟩ := andThen_good h
          obtain ⟨l2, rfl, h⟩ := pWant_good h
          have e1 := pValue_short h1
          rw [mk5_len h]
          simp only [List.length_cons] at *
          omega
        · cases h
theorem pList_short : ∀ {f : Nat} {l : List UInt8} {o : List Int} {i : Nat} {l' : List UInt8} {o' : List Int}, pList f l o = .good i l' o' → l'.length ≤ l.length
  | 0, l, o, i, l', o', h => by cases h
  | f + 1, l, o, i, l', o', h => by
    rw [pList] at h
    split at h
    · rw [mk5_len h]; exact Nat.le_refl _
    · obtain ⟨a, l1, o1, h1, h⟩ := andThen_good h
      have e1 := pOne_short (fun {l o i l' o'} h => pList_short h) h1
      split at h
      · injection h with x1 x2 x3; rw [← x2]; omega
      · obtain ⟨b, l2, o2, h2, h⟩ := andThen_good h
        have e2 := pList_short h2
        rw [mk5_len h]; omega
theorem drop_len {s : ByteArray} {p : Nat} {l : List UInt8} (h : s.data.toList.drop p = l) (hp : p ≤ s.size) : l.length = s.size - p := by
  rw [← h, List.length_drop]
  have : s.data.toList.length = s.size := by simp
  omega
end Go.Proofs.YtfpghfmdkbdojaaGreatDoor

namespace Go.Proofs.YtfpghfmdkbdojaaGreatDoor
open Go.RowKit
set_option maxRecDepth 100000
set_option linter.unusedVariables false

/-- The errors of strconv lie in their variables. -/
def NumErrs (w : World) : Prop := (∃ te pe, w.cell? ⟨3, 0, none⟩ = some (.iface te pe)) ∧ ∃ te pe, w.cell? ⟨4, 0, none⟩ = some (.iface te pe)
theorem mem_takeWhile {c : UInt8} {l : List UInt8} (h : c ∈ l.takeWhile isDig) : isDig c = true := by
  induction l with
  | nil => cases h
  | cons x l ih =>
    rw [List.takeWhile_cons] at h
    split at h
    · rcases List.mem_cons.1 h with rfl | h
      · assumption
      · exact ih h
    · cases h
theorem atoiAll_pos {d : List UInt8} (hd : ∀ c ∈ d, isDig c = true) {v : Int} (h : Lib.atoiAll d = .ok v) : 0 ≤ v := by
  unfold Lib.atoiAll at h
  cases d with
  | nil => cases h
  | cons c r =>
    have hc := of_decide_eq_true (hd c (List.mem_cons_self ..))
    dsimp only at h
    rw [if_neg (by omega)] at h
    split at h
    · cases h
    · cases h
    · split at h
      · cases h
      · rw [if_neg (by omega)] at h
        injection h with h
        rw [if_neg (by omega)] at h
        omega
theorem Atoi_bad {d : ByteArray} (hn : numOf d.data.toList = none) (hd : ∀ c ∈ d.data.toList, isDig c = true) (hs : d.size ≤ 300) (w : World) (hN : NumErrs w) :
    Calls Tryz.prog 63 #[.string d] w fun e w' => ((∃ x te pe, e = .returned (.tuple #[.int .i64 x, .iface te pe])) ∨ ∃ k : Nat, k ≤ 9223372036854775807 ∧ (999999 < k ∨ Lib.itoa (k : Int) ≠ d.data.toList) ∧ e = .returned (.tuple #[.int .i64 k, .nilIface])) ∧ Below w.heap.size w w' := by
  obtain ⟨⟨t1, p1, c1⟩, t2, p2, c2⟩ := hN
  cases ha : Lib.atoiAll d.data.toList with
  | ok v =>
    have h0 := atoiAll_pos hd ha
    obtain ⟨k, rfl⟩ := Int.eq_ofNat_of_zero_le h0
    have hb := Lib.atoiAll_bounds ha
    refine (Tryz.strconv_Atoi_ok d (by omega) (k : Int) ha w).mono ?_
    have hbad : 999999 < k ∨ Lib.itoa (k : Int) ≠ d.data.toList := by
      rcases Nat.lt_or_ge 999999 k with h | h
      · exact .inl h
      · refine .inr fun e => ?_
        unfold numOf at hn
        rw [ha] at hn
        dsimp only at hn
        rw [if_pos ⟨h0, by omega, e⟩] at hn
        cases hn
    rintro e w' ⟨he, hw | ⟨t, hw⟩⟩
    · subst hw; exact ⟨.inr ⟨k, by omega, hbad, he⟩, Below.refl _ _⟩
    · subst hw; exact ⟨.inr ⟨k, by omega, hbad, he⟩, Lib.bytesWorld_below _ _ _⟩
  | range =>
    refine (Tryz.strconv_Atoi_range d (by omega) ha _ w c2 (.inr ⟨_, _, rfl⟩)).mono ?_
    rintro e w' ⟨N, he, _, _, hb⟩
    exact ⟨.inl ⟨_, _, _, he⟩, hb⟩
  | _ =>
    refine (Tryz.strconv_Atoi_syntax d (by omega) ha _ w c1 (.inr ⟨_, _, rfl⟩)).mono ?_
    rintro e w' ⟨N, he, _, _, hb⟩
    exact ⟨.inl ⟨_, _, _, he⟩, hb⟩

set_option maxHeartbeats 16000000 in
theorem value_bad {r : Nat} {s : ByteArray} (hs : s.size ≤ 300) {w0 : World} (hP : Pow10 r w0) (hN : ∀ V, Below r w0 V → NumErrs V) : ∀ (f : Nat) (w : World) (p n : Nat) (v : Value) (o : List Int) (e : Nat), RdAt w r s p n v o → Below r w0 w → p ≤ s.size → o.length ≤ 400 → s.size - p < f → pValue f (s.data.toList.drop p) o = .bad e →
    Calls Tryz.prog 52 #[.pointer (some ⟨r, 0, none⟩)] w (RdBad r e w) := by
  intro f
  induction f with
  | zero => intro w p n v o e _ _ _ _ hf; omega
  | succ f ih =>
    intro w p n v o e hR hb0 hp ho hf h
    cases hd : s.data.toList.drop p with
    | nil =>
      rw [hd, pValue] at h
      injection h with h
      subst h
      have hps : s.size ≤ p := by have := drop_len hd hp; simp at this; omega
      have CN := next_any hR hs (by omega)
      rw [peekV_end hps] at CN
      have CN := Lib.hid CN
      have CI := Lib.hid (fun V => show Calls Tryz.prog 62 #[.string ⟨#[43, 60, 61]⟩, .int .u8 0] V (fun e w' => e = .returned (.int .i64 (-1)) ∧ V = w') from (Tryz.strings_IndexByte ⟨#[43, 60, 61]⟩ 0 V).mono fun e w' ⟨he, hw⟩ => ⟨he, hw.symm⟩)
      have CM := Lib.hid (fun V => name_bad (x := 0) (by omega) (by omega) (by omega) r V)
      clear hd hR ih
      go_enter Tryz.func52, Tryz.ntmps52
      go_wp2_with (first | (go_at_call 51; with_reducible refine CN.out.mono ?_; rintro e w1 ⟨rfl, h1, hb1⟩) | (go_at_call 62; with_reducible refine (CI.out _).mono ?_; rintro e w' ⟨rfl, rfl⟩))
      refine (CM.out _).mono ?_
      rintro e w2 ⟨rfl, hb2⟩
      exact ⟨rfl, rfl, hb1.trans hb2⟩
    | cons c l =>
      obtain ⟨hlt, hpk, hdl⟩ := drop_cons hd
      rw [hd, pValue] at h
      have CN := next_any hR hs (by omega)
      rw [hpk] at CN
      have CN := Lib.hid CN
      cases hop : opOf c with
      | some k =>
        rw [hop] at h
        dsimp only at h
        cases hv1 : pValue f l o with
        | bad e1 =>
          rw [hv1] at h
          dsimp only [PR.andThen] at h
          injection h with h
          subst h
          obtain ⟨hk, hix⟩ := idx_some hop
          obtain ⟨j, rfl⟩ : ∃ j, k = j + 2 := ⟨k - 2, by omega⟩
          rw [show j + 2 - 2 = j by omega] at hix
          have CI := Lib.hid (fun V => show Calls Tryz.prog 62 #[.string ⟨#[43, 60, 61]⟩, .int .u8 (c.toNat : Int)] V (fun e w' => e = .returned (.int .i64 (j : Int)) ∧ V = w') from (Tryz.strings_IndexByte ⟨#[43, 60, 61]⟩ (c.toNat : Int) V).mono fun e w' ⟨he, hw⟩ => ⟨by rw [he, byte_back]; exact congrArg (fun x => Ending.returned (.int .i64 x)) hix, hw.symm⟩)
          have Hd := Lib.hid hdl
          have hj2 : j ≤ 2 := by omega
          have Hv1 := Lib.hid hv1
          clear hv1 hop hix hd hpk hdl hk
          generalize (c.toNat : Int) = x at *
          go_enter Tryz.func52, Tryz.ntmps52
          go_wp2_with (first | (go_at_call 51; with_reducible refine CN.out.mono ?_; rintro e w1 ⟨rfl, h1, hb1⟩) | (go_at_call 62; with_reducible refine (CI.out _).mono ?_; rintro e w' ⟨rfl, rfl⟩))
          refine (ih w1 (p + 1) n v o e1 h1 (hb0.trans hb1) (by omega) ho (by omega) (by rw [Hd.out]; exact Hv1.out)).mono ?_
          rintro e w2 ⟨rfl, hb2⟩
          exact ⟨rfl, rfl, hb1.trans hb2⟩
        | good a l1 o1 =>
          rw [hv1] at h
          dsimp only [PR.andThen] at h
          have hsh := pValue_short hv1
          cases hv2 : pValue f l1 o1 with
          | bad e2 =>
            rw [hv2] at h
            dsimp only [PR.andThen] at h
            injection h with h
            subst h
            obtain ⟨hk, hix⟩ := idx_some hop
            obtain ⟨j, rfl⟩ : ∃ j, k = j + 2 := ⟨k - 2, by omega⟩
            rw [show j + 2 - 2 = j by omega] at hix
            have CI := Lib.hid (fun V => show Calls Tryz.prog 62 #[.string ⟨#[43, 60, 61]⟩, .int .u8 (c.toNat : Int)] V (fun e w' => e = .returned (.int .i64 (j : Int)) ∧ V = w') from (Tryz.strings_IndexByte ⟨#[43, 60, 61]⟩ (c.toNat : Int) V).mono fun e w' ⟨he, hw⟩ => ⟨by rw [he, byte_back]; exact congrArg (fun x => Ending.returned (.int .i64 x)) hix, hw.symm⟩)
            have Hd := Lib.hid hdl
            have hj2 : j ≤ 2 := by omega
            have Hv1 := Lib.hid hv1
            have Hv2 := Lib.hid hv2
            have hll := drop_len hdl (by omega)
            clear hv1 hv2 hop hix hd hpk hdl hk
            generalize (c.toNat : Int) = x at *
            go_enter Tryz.func52, Tryz.ntmps52
            go_wp2_with (first | (go_at_call 51; with_reducible refine CN.out.mono ?_; rintro e w1 ⟨rfl, h1, hb1⟩) | (go_at_call 62; with_reducible refine (CI.out _).mono ?_; rintro e w' ⟨rfl, rfl⟩))
            refine (value_good hs hP f w1 (p + 1) n v o a l1 o1 h1 (hb0.trans hb1) (by omega) ho (by rw [Hd.out]; exact Hv1.out)).mono ?_
            rintro e w2 ⟨rfl, p2, hp2, hd2, ho2, ⟨n2, v2, h2⟩, hb2⟩
            have hl2 := drop_len hd2 hp2
            have Hd2 := Lib.hid hd2
            clear hd2
            go_wp2_with fail
            refine (ih w2 p2 n2 v2 o1 e2 h2 ((hb0.trans hb1).trans hb2) hp2 ho2 (by omega) (by rw [Hd2.out]; exact Hv2.out)).mono ?_
            rintro e w3 ⟨rfl, hb3⟩
            exact ⟨rfl, rfl, (hb1.trans hb2).trans hb3⟩
          | good b l2 o2 =>
            rw [hv2] at h
            obtain ⟨hk, hix⟩ := idx_some hop
            obtain ⟨j, rfl⟩ : ∃ j, k = j + 2 := ⟨k - 2, by omega⟩
            rw [show j + 2 - 2 = j by omega] at hix
            have CI := Lib.hid (fun V => show Calls Tryz.prog 62 #[.string ⟨#[43, 60, 61]⟩, .int .u8 (c.toNat : Int)] V (fun e w' => e = .returned (.int .i64 (j : Int)) ∧ V = w') from (Tryz.strings_IndexByte ⟨#[43, 60, 61]⟩ (c.toNat : Int) V).mono fun e w' ⟨he, hw⟩ => ⟨by rw [he, byte_back]; exact congrArg (fun x => Ending.returned (.int .i64 x)) hix, hw.symm⟩)
            have Hd := Lib.hid hdl
            have hj2 : j ≤ 2 := by omega
            have H := Lib.hid h
            have Hv1 := Lib.hid hv1
            have Hv2 := Lib.hid hv2
            clear h hv1 hv2 hop hix hd hpk hdl hk
            generalize (c.toNat : Int) = x at *
            go_enter Tryz.func52, Tryz.ntmps52
            go_wp2_with (first | (go_at_call 51; with_reducible refine CN.out.mono ?_; rintro e w1 ⟨rfl, h1, hb1⟩) | (go_at_call 62; with_reducible refine (CI.out _).mono ?_; rintro e w' ⟨rfl, rfl⟩))
            refine (value_good hs hP f w1 (p + 1) n v o a l1 o1 h1 (hb0.trans hb1) (by omega) ho (by rw [Hd.out]; exact Hv1.out)).mono ?_
            rintro e w2 ⟨rfl, p2, hp2, hd2, ho2, ⟨n2, v2, h2⟩, hb2⟩
            have Hd2 := Lib.hid hd2
            clear hd2
            go_wp2_with fail
            refine (value_good hs hP f w2 p2 n2 v2 o1 b l2 o2 h2 ((hb0.trans hb1).trans hb2) hp2 ho2 (by rw [Hd2.out]; exact Hv2.out)).mono ?_
            rintro e w3 ⟨rfl, p3, hp3, hd3, ho3, ⟨n3, v3, h3⟩, hb3⟩
            obtain ⟨hm, rfl⟩ := mk5_bad H.out h3.own.1
            have CNd := Lib.hid (node_bad (by rw [← hm]; exact h3) (2 + (j : Int)) 0 a b 0)
            clear hd3 ih
            go_wp2_with fail
            refine CNd.out.mono ?_
            rintro e w4 ⟨rfl, hb4⟩
            exact ⟨rfl, rfl, ((hb1.trans hb2).trans hb3).trans hb4⟩
      | none =>
        rw [hop] at h
        dsimp only at h
        have CI := Lib.hid (fun V => show Calls Tryz.prog 62 #[.string ⟨#[43, 60, 61]⟩, .int .u8 (c.toNat : Int)] V (fun e w' => e = .returned (.int .i64 (-1)) ∧ V = w') from (Tryz.strings_IndexByte ⟨#[43, 60, 61]⟩ (c.toNat : Int) V).mono fun e w' ⟨he, hw⟩ => ⟨by rw [he, byte_back]; exact congrArg (fun x => Ending.returned (.int .i64 x)) (idx_none hop), hw.symm⟩)
        by_cases hc : c = 35
        · subst hc
          rw [if_pos rfl] at h
          cases hn : numOf (l.takeWhile isDig) with
          | none =>
            rw [hn] at h
            dsimp only at h
            injection h with h
            subst h
            rw [← hdl] at hn
            obtain ⟨p1, hp1⟩ : ∃ p1, p + 1 = p1 := ⟨_, rfl⟩
            rw [hp1] at hn CN
            have hp1s : p1 ≤ s.size := by omega
            have Hn := Lib.hid hn
            have d35 : (((35 : UInt8).toNat : Int) != 35) = false := by decide
            clear hn hop hd hpk hdl ih hp1 hlt
            generalize ((35 : UInt8).toNat : Int) = x at *
            go_enter Tryz.func52, Tryz.ntmps52
            go_wp2_with (first | (go_at_call 51; with_reducible refine CN.out.mono ?_; rintro e w1 ⟨rfl, h1, hb1⟩; have x1 := h1.at_) | (go_at_call 62; with_reducible refine (CI.out _).mono ?_; rintro e w' ⟨rfl, rfl⟩))
            clear x1
            go_loopg [] (s.size + 1) (fun m wr => ∃ (q n1 : Nat) (v1 : Value), s.size - q < m ∧ p1 ≤ q ∧ q ≤ s.size ∧ RdAt wr r s q n1 v1 o ∧ Below r w wr ∧ Hid (∀ j, p1 ≤ j → j < q → 48 ≤ peekV s j ∧ peekV s j ≤ 57))
            case atStart => exact ⟨p1, _, _, by omega, Nat.le_refl _, hp1s, h1, hb1, Lib.hid (fun j h1 h2 => by omega)⟩
            case round =>
              clear h1 hb1
              obtain ⟨q, n1, v1, hqm, hpq, hqs, h1, hb1, hdg⟩ := hrel
              have CP := Lib.hid (peek_any h1 hs (by omega))
              obtain ⟨hx0, hx1⟩ := peekV_byte s q
              by_cases hq : 48 ≤ peekV s q ∧ peekV s q ≤ 57
              · have CW := Lib.hid (fun V => within_is (peekV s q) 48 57 true (decide_eq_true hq) V)
                have hqs2 : q < s.size := by
                  rcases Nat.lt_or_ge q s.size with h2 | h2
                  · exact h2
                  · rw [peekV_end h2] at hq; omega
                have Hdg := Lib.hid (show ∀ j, p1 ≤ j → j < q + 1 → 48 ≤ peekV s j ∧ peekV s j ≤ 57 from fun j h1 h2 => by
                  rcases Nat.lt_or_ge j q with h3 | h3
                  · exact hdg.out j h1 h3
                  · obtain rfl : j = q := by omega
                    exact hq)
                clear hdg hq
                generalize peekV s q = y at *
                go_wp2_with (first | (go_at_call 61; with_reducible refine CP.out.mono ?_; rintro e w2 ⟨rfl, h2, hb2⟩; have x1 := h2.at_; have f1 := h2.box.free 1) | (go_at_call 16; with_reducible refine (CW.out _).mono ?_; rintro e w' ⟨rfl, rfl⟩))
                go_roundg (s.size - q)
                case measure => omega
                case rel => exact ⟨q + 1, _, _, by omega, by omega, by omega, h2.move (q + 1), (hb1.trans (hb2.mono (Nat.le_of_lt h1.lt))).setCell (Nat.le_refl r) _, Hdg⟩
              · have CW := Lib.hid (fun V => within_is (peekV s q) 48 57 false (decide_eq_false hq) V)
                obtain ⟨he1, he2⟩ := digits_end hpq hdg.out hq
                have Hn2 := Hn.out
                rw [he1] at Hn2
                have hdig : ∀ c ∈ (s.extract p1 q).data.toList, isDig c = true := fun c hc => by
                  rw [← he1] at hc
                  exact mem_takeWhile hc
                have CA := Lib.hid (fun V (hV : NumErrs V) => Atoi_bad Hn2 hdig (Nat.le_trans (extract_size s hqs) hs) V hV)
                have hq0 : (0 : Int) ≤ (p1 : Int) := by omega
                have hq1 : (p1 : Int) ≤ (q : Int) := by omega
                have hq2 : (q : Int) ≤ (s.size : Int) := by omega
                clear hdg hq Hn Hn2 he1 he2 hdig
                generalize peekV s q = y at *
                go_wp2_with (first | (go_at_call 61; with_reducible refine CP.out.mono ?_; rintro e w2 ⟨rfl, h2, hb2⟩; have x0 := h2.text; have x1 := h2.at_) | (go_at_call 16; with_reducible refine (CW.out _).mono ?_; rintro e w' ⟨rfl, rfl⟩))
                go_quiet (fail)
                have h3 := h2.drewN nq
                have hb3 := hb1.trans ((belowD hb2 nq).mono (Nat.le_of_lt h1.lt))
                clear h2 hb2 x0 x1 CP CW
                generalize s.extract p1 q = dg at *
                generalize w2.drewN nq = w3 at *
                go_wp2_with fail
                with_reducible refine (CA.out _ (hN _ (hb0.trans hb3))).mono ?_
                rintro e w4 ⟨hA, hb4⟩
                have h4 := h3.below hb4
                have hb4' := hb3.trans (hb4.mono (Nat.le_of_lt h3.lt))
                rcases hA with ⟨x, te, pe, rfl⟩ | ⟨k, hk, hbad, rfl⟩
                · go_wp2_with fail
                  refine (fail_any _ 2 _).mono ?_
                  rintro e w5 ⟨rfl, rfl⟩
                  exact ⟨rfl, rfl, hb4'⟩
                · by_cases hk9 : 999999 < k
                  · have dk : decide ((k : Int) > 999999) = true := by simp; omega
                    have dk2 : decide (999999 < k) = true := by simp; omega
                    clear hbad
                    go_wp2_with fail
                    refine (fail_any _ 2 _).mono ?_
                    rintro e w5 ⟨rfl, rfl⟩
                    exact ⟨rfl, rfl, hb4'⟩
                  · have dk : decide ((k : Int) > 999999) = false := by simp; omega
                    have dk2 : decide (999999 < k) = false := by simp; omega
                    have hne : Lib.itoa (k : Int) ≠ dg.data.toList := by
                      rcases hbad with hb | hb
                      · omega
                      · exact hb
                    have CT := Lib.hid ((Itoa_any (k : Int) (by omega) w4 (hP _ (hb0.trans hb4'))))
                    have hsn : (⟨(Lib.itoa (k : Int)).toArray⟩ : ByteArray) ≠ dg := fun e => hne (by rw [← e])
                    generalize (⟨(Lib.itoa (k : Int)).toArray⟩ : ByteArray) = t at *
                    have dt : (t.toList == dg.toList) = false := by
                      rw [beq_eq_false_iff_ne]
                      intro e
                      rw [Lib.toList_data, Lib.toList_data] at e
                      exact hsn (by cases t; cases dg; simpa using e)
                    have dt4 : decide (t = dg) = false := by simpa using hsn
                    clear hbad hne hsn hk9
                    go_wp2_with (go_at_call 31; with_reducible refine CT.out.mono ?_; rintro e w5 ⟨rfl, hb5⟩)
                    refine (fail_any _ 2 _).mono ?_
                    rintro e w6 ⟨rfl, rfl⟩
                    exact ⟨rfl, rfl, hb4'.trans (hb5.mono (Nat.le_of_lt h4.lt))⟩
          | some k =>
            rw [hn] at h
            dsimp only at h
            obtain ⟨hat, hk, hit⟩ := numOf_some hn
            rw [← hdl] at h hat hit
            obtain ⟨p1, hp1⟩ : ∃ p1, p + 1 = p1 := ⟨_, rfl⟩
            rw [hp1] at h hat hit CN
            have hp1s : p1 ≤ s.size := by omega
            have H := Lib.hid h
            have Hat := Lib.hid hat
            have Hit := Lib.hid hit
            have d35 : (((35 : UInt8).toNat : Int) != 35) = false := by decide
            clear h hn hop hd hpk hdl ih hat hit hp1 hlt
            generalize ((35 : UInt8).toNat : Int) = x at *
            go_enter Tryz.func52, Tryz.ntmps52
            go_wp2_with (first | (go_at_call 51; with_reducible refine CN.out.mono ?_; rintro e w1 ⟨rfl, h1, hb1⟩; have x1 := h1.at_) | (go_at_call 62; with_reducible refine (CI.out _).mono ?_; rintro e w' ⟨rfl, rfl⟩))
            clear x1
            go_loopg [] (s.size + 1) (fun m wr => ∃ (q n1 : Nat) (v1 : Value), s.size - q < m ∧ p1 ≤ q ∧ q ≤ s.size ∧ RdAt wr r s q n1 v1 o ∧ Below r w wr ∧ Hid (∀ j, p1 ≤ j → j < q → 48 ≤ peekV s j ∧ peekV s j ≤ 57))
            case atStart => exact ⟨p1, _, _, by omega, Nat.le_refl _, hp1s, h1, hb1, Lib.hid (fun j h1 h2 => by omega)⟩
            case round =>
              clear h1 hb1
              obtain ⟨q, n1, v1, hqm, hpq, hqs, h1, hb1, hdg⟩ := hrel
              have CP := Lib.hid (peek_any h1 hs (by omega))
              obtain ⟨hx0, hx1⟩ := peekV_byte s q
              by_cases hq : 48 ≤ peekV s q ∧ peekV s q ≤ 57
              · have CW := Lib.hid (fun V => within_is (peekV s q) 48 57 true (decide_eq_true hq) V)
                have hqs2 : q < s.size := by
                  rcases Nat.lt_or_ge q s.size with h2 | h2
                  · exact h2
                  · rw [peekV_end h2] at hq; omega
                have Hdg := Lib.hid (show ∀ j, p1 ≤ j → j < q + 1 → 48 ≤ peekV s j ∧ peekV s j ≤ 57 from fun j h1 h2 => by
                  rcases Nat.lt_or_ge j q with h3 | h3
                  · exact hdg.out j h1 h3
                  · obtain rfl : j = q := by omega
                    exact hq)
                clear hdg hq
                generalize peekV s q = y at *
                go_wp2_with (first | (go_at_call 61; with_reducible refine CP.out.mono ?_; rintro e w2 ⟨rfl, h2, hb2⟩; have x1 := h2.at_; have f1 := h2.box.free 1) | (go_at_call 16; with_reducible refine (CW.out _).mono ?_; rintro e w' ⟨rfl, rfl⟩))
                go_roundg (s.size - q)
                case measure => omega
                case rel => exact ⟨q + 1, _, _, by omega, by omega, by omega, h2.move (q + 1), (hb1.trans (hb2.mono (Nat.le_of_lt h1.lt))).setCell (Nat.le_refl r) _, Hdg⟩
              · have CW := Lib.hid (fun V => within_is (peekV s q) 48 57 false (decide_eq_false hq) V)
                obtain ⟨he1, he2⟩ := digits_end hpq hdg.out hq
                have H2 := H.out
                have Hat2 := Hat.out
                have Hit2 := Hit.out
                rw [he2] at H2
                rw [he1] at Hat2 Hit2
                have HH := Lib.hid H2
                have CA := Lib.hid (fun V => Atoi_at Hat2 (Nat.le_trans (extract_size s hqs) hs) V)
                have CT := Lib.hid (fun V (hV : Below r w0 V) => Itoa_at hP hV hk Hit2)
                have hq0 : (0 : Int) ≤ (p1 : Int) := by omega
                have hq1 : (p1 : Int) ≤ (q : Int) := by omega
                have hq2 : (q : Int) ≤ (s.size : Int) := by omega
                have dk : decide ((k : Int) > 999999) = false := by simp; omega
                have dk2 : decide (999999 < k) = false := by simp; omega
                clear hdg hq H Hat Hit H2 Hat2 Hit2 he1 he2
                generalize peekV s q = y at *
                go_wp2_with (first | (go_at_call 61; with_reducible refine CP.out.mono ?_; rintro e w2 ⟨rfl, h2, hb2⟩; have x0 := h2.text; have x1 := h2.at_) | (go_at_call 16; with_reducible refine (CW.out _).mono ?_; rintro e w' ⟨rfl, rfl⟩))
                go_quiet (fail)
                have h3 := h2.drewN nq
                have hb3 := hb1.trans ((belowD hb2 nq).mono (Nat.le_of_lt h1.lt))
                clear h2 hb2 x0 x1 CP CW
                generalize s.extract p1 q = dg at *
                generalize w2.drewN nq = w3 at *
                go_wp2_with fail
                with_reducible refine (CA.out _).mono ?_
                rintro e w4 ⟨rfl, hb4⟩
                have h4 := h3.below hb4
                have hb4' := hb3.trans (hb4.mono (Nat.le_of_lt h3.lt))
                have CT4 := Lib.hid (CT.out w4 (hb0.trans hb4'))
                clear CA CT
                go_wp2_with (go_at_call 31; with_reducible refine CT4.out.mono ?_; rintro e w5 ⟨rfl, hb5⟩)
                have h5 := h4.below hb5
                have hb5' := hb4'.trans (hb5.mono (Nat.le_of_lt h4.lt))
                obtain ⟨hm, rfl⟩ := mk5_bad HH.out h5.own.1
                clear CT4
                refine (node_bad (by rw [← hm]; exact h5) 0 k 0 0 0).mono ?_
                rintro e w6 ⟨rfl, hb6⟩
                exact ⟨rfl, rfl, hb5'.trans hb6⟩
        · rw [if_neg hc] at h
          have d35 : ((c.toNat : Int) != 35) = true := by
            have : c.toNat ≠ 35 := fun e => hc (UInt8.toNat_inj.1 e)
            simp
            omega
          have hcb : (c.toNat : Int) ≤ 255 := by have := c.toNat_lt; omega
          have hc0 : (0 : Int) ≤ (c.toNat : Int) := by omega
          cases hn : nameOf c with
          | none =>
            rw [hn] at h
            dsimp only at h
            injection h with h
            subst h
            have hnn : ¬ (97 ≤ (c.toNat : Int) ∧ (c.toNat : Int) ≤ 102) := by
              unfold nameOf at hn
              split at hn
              · cases hn
              · omega
            have CM := Lib.hid (fun V => name_bad hnn hc0 hcb r V)
            clear hn hop hd hpk hdl hc ih hnn
            generalize (c.toNat : Int) = x at *
            go_enter Tryz.func52, Tryz.ntmps52
            go_wp2_with (first | (go_at_call 51; with_reducible refine CN.out.mono ?_; rintro e w1 ⟨rfl, h1, hb1⟩) | (go_at_call 62; with_reducible refine (CI.out _).mono ?_; rintro e w' ⟨rfl, rfl⟩))
            refine (CM.out _).mono ?_
            rintro e w2 ⟨rfl, hb2⟩
            exact ⟨rfl, rfl, hb1.trans hb2⟩
          | some k =>
            rw [hn] at h
            dsimp only at h
            have CM := Lib.hid (fun V => name_good hn r V)
            have H := Lib.hid h
            clear h hn hop hd hpk hdl hc ih
            generalize (c.toNat : Int) = x at *
            go_enter Tryz.func52, Tryz.ntmps52
            go_wp2_with (first | (go_at_call 51; with_reducible refine CN.out.mono ?_; rintro e w1 ⟨rfl, h1, hb1⟩) | (go_at_call 62; with_reducible refine (CI.out _).mono ?_; rintro e w' ⟨rfl, rfl⟩) | (go_at_call 54; with_reducible refine (CM.out _).mono ?_; rintro e w' ⟨rfl, rfl⟩))
            obtain ⟨hm, rfl⟩ := mk5_bad H.out h1.own.1
            refine (node_bad (by rw [← hm]; exact h1) 1 k 0 0 0).mono ?_
            rintro e w4 ⟨rfl, hb4⟩
            exact ⟨rfl, rfl, hb1.trans hb4⟩
end Go.Proofs.YtfpghfmdkbdojaaGreatDoor

namespace Go.Proofs.YtfpghfmdkbdojaaGreatDoor
open Go.RowKit
set_option maxRecDepth 100000
set_option linter.unusedVariables false

theorem pWant_bad {c : UInt8} {l : List UInt8} {o : List Int} {F : List UInt8 → List Int → PR} {e : Nat} (h : pWant c l o F = .bad e) : (e = 2 ∧ ∀ r, l ≠ c :: r) ∨ ∃ r, l = c :: r ∧ F r o = .bad e := by
  unfold pWant at h
  cases l with
  | nil => injection h with h; exact .inl ⟨h.symm, fun r e => by cases e⟩
  | cons x r =>
    dsimp only at h
    split at h
    · rename_i e; subst e; exact .inr ⟨r, rfl, h⟩
    · rename_i hne
      injection h with h
      exact .inl ⟨h.symm, fun r e => hne (by injection e)⟩
theorem andThen_bad {a : PR} {F : Nat → List UInt8 → List Int → PR} {e : Nat} (h : a.andThen F = .bad e) : a = .bad e ∨ ∃ i1 l1 o1, a = .good i1 l1 o1 ∧ F i1 l1 o1 = .bad e := by
  cases a with
  | bad e1 => exact .inl h
  | good i1 l1 o1 => exact .inr ⟨i1, l1, o1, rfl, h⟩
theorem peek_ne {s : ByteArray} {p : Nat} {c : UInt8} (hc : c ≠ 0) (h : ∀ r, s.data.toList.drop p ≠ c :: r) : peekV s p ≠ (c.toNat : Int) := by
  cases hd : s.data.toList.drop p with
  | nil =>
    have hps : s.size ≤ p := by
      have := congrArg List.length hd
      rw [List.length_drop, List.length_nil] at this
      have h2 : s.data.toList.length = s.size := by simp
      omega
    rw [peekV_end hps]
    have : c.toNat ≠ 0 := fun e => hc (UInt8.toNat_inj.1 e)
    omega
  | cons x l =>
    rw [(drop_cons hd).2.1]
    intro e
    have : x = c := UInt8.toNat_inj.1 (by omega)
    subst this
    exact h l hd
/-- What list does with fuel f, where the text is wrong. -/
def ListBad (r : Nat) (s : ByteArray) (w0 : World) (f : Nat) : Prop := ∀ (w : World) (p n : Nat) (v : Value) (o : List Int) (e : Nat), RdAt w r s p n v o → Below r w0 w → p ≤ s.size → o.length ≤ 400 → s.size - p < f → pList f (s.data.toList.drop p) o = .bad e →
    Calls Tryz.prog 27 #[.pointer (some ⟨r, 0, none⟩)] w (RdBad r e w)
section
variable {w w0 : World} {r : Nat} {s : ByteArray} {p n f : Nat} {v : Value} {o : List Int}
theorem wantBad_at {c : UInt8} {x : Int} (hc : c ≠ 0) (hx : (c.toNat : Int) = x) (h : RdAt w r s p n v o) (hs : s.size ≤ 300) (hp : p ≤ s.size) (hd : ∀ r, s.data.toList.drop p ≠ c :: r) :
    Calls Tryz.prog 55 #[.pointer (some ⟨r, 0, none⟩), .int .u8 x] w (RdBad r 2 w) := by
  subst hx
  exact want_bad h hs (by omega) (peek_ne hc hd)
set_option maxHeartbeats 4000000 in
theorem block_bad {e : Nat} (hs : s.size ≤ 300) (HL : ListGood r s w0 f) (HB : ListBad r s w0 f) (hR : RdAt w r s p n v o) (hb0 : Below r w0 w) (hp : p ≤ s.size) (ho : o.length ≤ 400) (hf : s.size - p < f + 1) (h : pBlock (pList f) (s.data.toList.drop p) o = .bad e) :
    Calls Tryz.prog 53 #[.pointer (some ⟨r, 0, none⟩)] w (RdBad r e w) := by
  rcases pWant_bad h with ⟨rfl, hd⟩ | ⟨l1, hd, h⟩
  · have C1 := Lib.hid (wantBad_at (x := 123) (c := 123) (by decide) rfl hR hs hp hd)
    clear hd hR HL HB h
    go_enter Tryz.func53, Tryz.ntmps53
    go_wp2_with fail
    refine C1.out.mono ?_
    rintro e w1 ⟨rfl, hb1⟩
    exact ⟨rfl, rfl, hb1⟩
  have C1 := Lib.hid (want_at (x := 123) rfl hR hs hp hd)
  have Hd := Lib.hid (drop_cons hd).2.2
  have hlt := (drop_cons hd).1
  rcases andThen_bad h with h1 | ⟨i1, l2, o1, hl, h⟩
  · have H1 := Lib.hid h1
    have HBh := Lib.hid HB
    clear hd hR HL HB h h1
    go_enter Tryz.func53, Tryz.ntmps53
    go_wp2_with fail
    refine C1.out.mono ?_
    rintro e w1 ⟨rfl, h1, hb1⟩
    go_wp2_with fail
    refine (HBh.out w1 (p + 1) n v o _ h1 (hb0.trans hb1) (by omega) ho (by omega) (by rw [Hd.out]; exact H1.out)).mono ?_
    rintro e w2 ⟨rfl, hb2⟩
    exact ⟨rfl, rfl, hb1.trans hb2⟩
  · have hw : e = 2 ∧ ∀ r, l2 ≠ 125 :: r := by
      rcases pWant_bad h with hh | ⟨l3, hd3, h3⟩
      · exact hh
      · cases h3
    obtain ⟨rfl, hne⟩ := hw
    have Hl := Lib.hid hl
    have HLh := Lib.hid HL
    have Hne := Lib.hid hne
    clear hd hl hR HL HB h hne
    go_enter Tryz.func53, Tryz.ntmps53
    go_wp2_with fail
    refine C1.out.mono ?_
    rintro e w1 ⟨rfl, h1, hb1⟩
    go_wp2_with fail
    refine (HLh.out w1 (p + 1) n v o i1 l2 o1 h1 (hb0.trans hb1) (by omega) ho (by rw [Hd.out]; exact Hl.out)).mono ?_
    rintro e w2 ⟨rfl, p2, hp2, hd2, ho2, ⟨n2, v2, h2⟩, hb2⟩
    have C2 := Lib.hid (wantBad_at (x := 125) (c := 125) (by decide) rfl h2 hs hp2 (by rw [hd2]; exact Hne.out))
    clear hd2 C1
    go_wp2_with fail
    refine C2.out.mono ?_
    rintro e w3 ⟨rfl, hb3⟩
    exact ⟨rfl, rfl, (hb1.trans hb2).trans hb3⟩
set_option maxHeartbeats 16000000 in
theorem one_bad {e : Nat} (hs : s.size ≤ 300) (hP : Pow10 r w0) (hN : ∀ V, Below r w0 V → NumErrs V) (HL : ListGood r s w0 f) (HLB : ListBad r s w0 f) (hR : RdAt w r s p n v o) (hb0 : Below r w0 w) (hp : p ≤ s.size) (ho : o.length ≤ 400) (hf : s.size - p < f + 1) (h : pOne (pValue f) (pList f) (s.data.toList.drop p) o = .bad e) :
    Calls Tryz.prog 39 #[.pointer (some ⟨r, 0, none⟩)] w (RdBad r e w) := by
  have HV := Lib.hid (value_good hs hP f)
  have HVb := Lib.hid (fun (w : World) (p n : Nat) (v : Value) (o : List Int) (e : Nat) (hR : RdAt w r s p n v o) (hb : Below r w0 w) (hp : p ≤ s.size) (ho : o.length ≤ 400) (hf : s.size - p < f) (h : pValue f (s.data.toList.drop p) o = .bad e) => value_bad hs hP hN f w p n v o e hR hb hp ho hf h)
  have HB := Lib.hid (fun (w : World) (p n : Nat) (v : Value) (o : List Int) (i : Nat) (l' : List UInt8) (o' : List Int) (hR : RdAt w r s p n v o) (hb : Below r w0 w) (hp : p ≤ s.size) (ho : o.length ≤ 400) (h : pBlock (pList f) (s.data.toList.drop p) o = .good i l' o') => block_good hs HL hR hb hp ho h)
  have HBb := Lib.hid (fun (w : World) (p n : Nat) (v : Value) (o : List Int) (e : Nat) (hR : RdAt w r s p n v o) (hb : Below r w0 w) (hp : p ≤ s.size) (ho : o.length ≤ 400) (hf : s.size - p < f + 1) (h : pBlock (pList f) (s.data.toList.drop p) o = .bad e) => block_bad hs HL HLB hR hb hp ho hf h)
  cases hd : s.data.toList.drop p with
  | nil =>
    rw [hd, pOne] at h
    injection h with h
    subst h
    have hps : s.size ≤ p := by have := drop_len hd hp; simp at this; omega
    have CN := next_any hR hs (by omega)
    rw [peekV_end hps] at CN
    have CN := Lib.hid CN
    have CM := Lib.hid (fun V => name_bad (x := 0) (by omega) (by omega) (by omega) r V)
    clear hd hR HL HLB hP hN
    go_enter Tryz.func39, Tryz.ntmps39
    go_wp2_with (go_at_call 51; with_reducible refine CN.out.mono ?_; rintro e w1 ⟨rfl, h1, hb1⟩)
    refine (CM.out _).mono ?_
    rintro e w2 ⟨rfl, hb2⟩
    exact ⟨rfl, rfl, hb1.trans hb2⟩
  | cons c l =>
    obtain ⟨hlt, hpk, hdl⟩ := drop_cons hd
    rw [hd] at h
    unfold pOne at h
    dsimp only at h
    have CN := next_any hR hs (by omega)
    rw [hpk] at CN
    have CN := Lib.hid CN
    have Hd := Lib.hid hdl
    have hll : l.length ≤ s.size - (p + 1) := Nat.le_of_eq (drop_len hdl (by omega))
    clear hd hpk hdl HL HLB hR hP hN
    by_cases h63 : c = 63
    · subst h63
      rw [if_pos rfl] at h
      have dq : (((63 : UInt8).toNat : Int) == 63) = true := by decide
      rcases andThen_bad h with hx | ⟨a, l1, o1, hv0, h⟩
      · have Hx := Lib.hid hx
        clear h hx 
        generalize ((63 : UInt8).toNat : Int) = x at *
        go_enter Tryz.func39, Tryz.ntmps39
        go_wp2_with (go_at_call 51; with_reducible refine CN.out.mono ?_; rintro e w1 ⟨rfl, h1, hb1⟩)
        refine (HVb.out w1 (p + 1) n v o _ h1 (hb0.trans (hb1)) (by omega) ho (by omega) (by rw [Hd.out]; exact Hx.out)).mono ?_
        rintro e w2 ⟨rfl, hb2⟩
        exact ⟨rfl, rfl, hb1.trans hb2⟩
      rcases andThen_bad h with hx | ⟨b, l2, o2, hv1, h⟩
      · have Hx := Lib.hid hx
        have Hv0 := Lib.hid hv0
        have hsh0 := pValue_short hv0
        clear h hx hv0
        generalize ((63 : UInt8).toNat : Int) = x at *
        go_enter Tryz.func39, Tryz.ntmps39
        go_wp2_with (go_at_call 51; with_reducible refine CN.out.mono ?_; rintro e w1 ⟨rfl, h1, hb1⟩)
        refine (HV.out w1 (p + 1) n v o a l1 o1 h1 (hb0.trans (hb1)) (by omega) ho (by rw [Hd.out]; exact Hv0.out)).mono ?_
        rintro e w2 ⟨rfl, p2, hp2, hd2, ho2, ⟨n2, v2, h2⟩, hb2⟩
        have hl2 : s.size - p2 ≤ l1.length := Nat.le_of_eq (drop_len hd2 hp2).symm
        have Hd2 := Lib.hid hd2
        clear hd2
        go_wp2_with fail
        refine (HBb.out w2 p2 n2 v2 o1 _ h2 (hb0.trans (hb1.trans hb2)) hp2 ho2 (by omega) (by rw [Hd2.out]; exact Hx.out)).mono ?_
        rintro e w3 ⟨rfl, hb3⟩
        exact ⟨rfl, rfl, (hb1.trans hb2).trans hb3⟩
      rcases andThen_bad h with hx | ⟨d, l3, o3, hv2, h⟩
      · have Hx := Lib.hid hx
        have Hv0 := Lib.hid hv0
        have Hv1 := Lib.hid hv1
        have hsh0 := pValue_short hv0
        have hsh1 := pBlock_short (fun h => pList_short h) hv1
        clear h hx hv0 hv1
        generalize ((63 : UInt8).toNat : Int) = x at *
        go_enter Tryz.func39, Tryz.ntmps39
        go_wp2_with (go_at_call 51; with_reducible refine CN.out.mono ?_; rintro e w1 ⟨rfl, h1, hb1⟩)
        refine (HV.out w1 (p + 1) n v o a l1 o1 h1 (hb0.trans (hb1)) (by omega) ho (by rw [Hd.out]; exact Hv0.out)).mono ?_
        rintro e w2 ⟨rfl, p2, hp2, hd2, ho2, ⟨n2, v2, h2⟩, hb2⟩
        have hl2 : s.size - p2 ≤ l1.length := Nat.le_of_eq (drop_len hd2 hp2).symm
        have Hd2 := Lib.hid hd2
        clear hd2
        go_wp2_with fail
        refine (HB.out w2 p2 n2 v2 o1 b l2 o2 h2 (hb0.trans (hb1.trans hb2)) hp2 ho2 (by rw [Hd2.out]; exact Hv1.out)).mono ?_
        rintro e w3 ⟨rfl, p3, hp3, hd3, ho3, ⟨n3, v3, h3⟩, hb3⟩
        have hl3 : s.size - p3 ≤ l2.length := Nat.le_of_eq (drop_len hd3 hp3).symm
        have Hd3 := Lib.hid hd3
        clear hd3
        go_wp2_with fail
        refine (HBb.out w3 p3 n3 v3 o2 _ h3 (hb0.trans ((hb1.trans hb2).trans hb3)) hp3 ho3 (by omega) (by rw [Hd3.out]; exact Hx.out)).mono ?_
        rintro e w4 ⟨rfl, hb4⟩
        exact ⟨rfl, rfl, ((hb1.trans hb2).trans hb3).trans hb4⟩
      have H := Lib.hid h
      have Hv0 := Lib.hid hv0
      have Hv1 := Lib.hid hv1
      have Hv2 := Lib.hid hv2
      clear h hv0 hv1 hv2
      generalize ((63 : UInt8).toNat : Int) = x at *
      go_enter Tryz.func39, Tryz.ntmps39
      go_wp2_with (go_at_call 51; with_reducible refine CN.out.mono ?_; rintro e w1 ⟨rfl, h1, hb1⟩)
      refine (HV.out w1 (p + 1) n v o a l1 o1 h1 (hb0.trans (hb1)) (by omega) ho (by rw [Hd.out]; exact Hv0.out)).mono ?_
      rintro e w2 ⟨rfl, p2, hp2, hd2, ho2, ⟨n2, v2, h2⟩, hb2⟩
      have hl2 : s.size - p2 ≤ l1.length := Nat.le_of_eq (drop_len hd2 hp2).symm
      have Hd2 := Lib.hid hd2
      clear hd2
      go_wp2_with fail
      refine (HB.out w2 p2 n2 v2 o1 b l2 o2 h2 (hb0.trans (hb1.trans hb2)) hp2 ho2 (by rw [Hd2.out]; exact Hv1.out)).mono ?_
      rintro e w3 ⟨rfl, p3, hp3, hd3, ho3, ⟨n3, v3, h3⟩, hb3⟩
      have hl3 : s.size - p3 ≤ l2.length := Nat.le_of_eq (drop_len hd3 hp3).symm
      have Hd3 := Lib.hid hd3
      clear hd3
      go_wp2_with fail
      refine (HB.out w3 p3 n3 v3 o2 d l3 o3 h3 (hb0.trans ((hb1.trans hb2).trans hb3)) hp3 ho3 (by rw [Hd3.out]; exact Hv2.out)).mono ?_
      rintro e w4 ⟨rfl, p4, hp4, hd4, ho4, ⟨n4, v4, h4⟩, hb4⟩
      have hl4 : s.size - p4 ≤ l3.length := Nat.le_of_eq (drop_len hd4 hp4).symm
      have Hd4 := Lib.hid hd4
      clear hd4
      go_wp2_with fail
      obtain ⟨hm, rfl⟩ := mk5_bad H.out h4.own.1
      refine (node_bad (by rw [← hm]; exact h4) 8 0 a b d).mono ?_
      rintro e w5 ⟨rfl, hb5⟩
      exact ⟨rfl, rfl, (((hb1.trans hb2).trans hb3).trans hb4).trans hb5⟩
    rw [if_neg h63] at h
    have d63 : ((c.toNat : Int) == 63) = false := by
      have : c.toNat ≠ 63 := fun e => h63 (UInt8.toNat_inj.1 e)
      simp
      omega
    clear h63
    by_cases h64 : c = 64
    · subst h64
      rw [if_pos rfl] at h
      have dq : (((64 : UInt8).toNat : Int) == 64) = true := by decide
      rcases andThen_bad h with hx | ⟨a, l1, o1, hv0, h⟩
      · have Hx := Lib.hid hx
        clear h hx 
        generalize ((64 : UInt8).toNat : Int) = x at *
        go_enter Tryz.func39, Tryz.ntmps39
        go_wp2_with (go_at_call 51; with_reducible refine CN.out.mono ?_; rintro e w1 ⟨rfl, h1, hb1⟩)
        refine (HVb.out w1 (p + 1) n v o _ h1 (hb0.trans (hb1)) (by omega) ho (by omega) (by rw [Hd.out]; exact Hx.out)).mono ?_
        rintro e w2 ⟨rfl, hb2⟩
        exact ⟨rfl, rfl, hb1.trans hb2⟩
      rcases andThen_bad h with hx | ⟨b, l2, o2, hv1, h⟩
      · have Hx := Lib.hid hx
        have Hv0 := Lib.hid hv0
        have hsh0 := pValue_short hv0
        clear h hx hv0
        generalize ((64 : UInt8).toNat : Int) = x at *
        go_enter Tryz.func39, Tryz.ntmps39
        go_wp2_with (go_at_call 51; with_reducible refine CN.out.mono ?_; rintro e w1 ⟨rfl, h1, hb1⟩)
        refine (HV.out w1 (p + 1) n v o a l1 o1 h1 (hb0.trans (hb1)) (by omega) ho (by rw [Hd.out]; exact Hv0.out)).mono ?_
        rintro e w2 ⟨rfl, p2, hp2, hd2, ho2, ⟨n2, v2, h2⟩, hb2⟩
        have hl2 : s.size - p2 ≤ l1.length := Nat.le_of_eq (drop_len hd2 hp2).symm
        have Hd2 := Lib.hid hd2
        clear hd2
        go_wp2_with fail
        refine (HBb.out w2 p2 n2 v2 o1 _ h2 (hb0.trans (hb1.trans hb2)) hp2 ho2 (by omega) (by rw [Hd2.out]; exact Hx.out)).mono ?_
        rintro e w3 ⟨rfl, hb3⟩
        exact ⟨rfl, rfl, (hb1.trans hb2).trans hb3⟩
      have H := Lib.hid h
      have Hv0 := Lib.hid hv0
      have Hv1 := Lib.hid hv1
      clear h hv0 hv1
      generalize ((64 : UInt8).toNat : Int) = x at *
      go_enter Tryz.func39, Tryz.ntmps39
      go_wp2_with (go_at_call 51; with_reducible refine CN.out.mono ?_; rintro e w1 ⟨rfl, h1, hb1⟩)
      refine (HV.out w1 (p + 1) n v o a l1 o1 h1 (hb0.trans (hb1)) (by omega) ho (by rw [Hd.out]; exact Hv0.out)).mono ?_
      rintro e w2 ⟨rfl, p2, hp2, hd2, ho2, ⟨n2, v2, h2⟩, hb2⟩
      have hl2 : s.size - p2 ≤ l1.length := Nat.le_of_eq (drop_len hd2 hp2).symm
      have Hd2 := Lib.hid hd2
      clear hd2
      go_wp2_with fail
      refine (HB.out w2 p2 n2 v2 o1 b l2 o2 h2 (hb0.trans (hb1.trans hb2)) hp2 ho2 (by rw [Hd2.out]; exact Hv1.out)).mono ?_
      rintro e w3 ⟨rfl, p3, hp3, hd3, ho3, ⟨n3, v3, h3⟩, hb3⟩
      have hl3 : s.size - p3 ≤ l2.length := Nat.le_of_eq (drop_len hd3 hp3).symm
      have Hd3 := Lib.hid hd3
      clear hd3
      go_wp2_with fail
      obtain ⟨hm, rfl⟩ := mk5_bad H.out h3.own.1
      refine (node_bad (by rw [← hm]; exact h3) 9 0 a b 0).mono ?_
      rintro e w4 ⟨rfl, hb4⟩
      exact ⟨rfl, rfl, ((hb1.trans hb2).trans hb3).trans hb4⟩
    rw [if_neg h64] at h
    have d64 : ((c.toNat : Int) == 64) = false := by
      have : c.toNat ≠ 64 := fun e => h64 (UInt8.toNat_inj.1 e)
      simp
      omega
    clear h64 HB HBb
    have hcb : (c.toNat : Int) ≤ 255 := by have := c.toNat_lt; omega
    have hc0 : (0 : Int) ≤ (c.toNat : Int) := by omega
    cases hn : nameOf c with
    | none =>
      rw [hn] at h
      dsimp only at h
      injection h with h
      subst h
      have hnn : ¬ (97 ≤ (c.toNat : Int) ∧ (c.toNat : Int) ≤ 102) := by
        unfold nameOf at hn
        split at hn
        · cases hn
        · omega
      have CM := Lib.hid (fun V => name_bad hnn hc0 hcb r V)
      clear hn hnn
      generalize (c.toNat : Int) = x at *
      go_enter Tryz.func39, Tryz.ntmps39
      go_wp2_with (go_at_call 51; with_reducible refine CN.out.mono ?_; rintro e w1 ⟨rfl, h1, hb1⟩)
      refine (CM.out _).mono ?_
      rintro e w2 ⟨rfl, hb2⟩
      exact ⟨rfl, rfl, hb1.trans hb2⟩
    | some k =>
      rw [hn] at h
      dsimp only at h
      have CM := Lib.hid (fun V => name_good hn r V)
      clear hn
      generalize (c.toNat : Int) = x at *
      rcases pWant_bad h with ⟨rfl, hne⟩ | ⟨l1, hd1, h⟩
      · have Hne := Lib.hid hne
        clear h hne
        go_enter Tryz.func39, Tryz.ntmps39
        go_wp2_with (first | (go_at_call 51; with_reducible refine CN.out.mono ?_; rintro e w1 ⟨rfl, h1, hb1⟩) | (go_at_call 54; with_reducible refine (CM.out _).mono ?_; rintro e w' ⟨rfl, rfl⟩))
        refine (wantBad_at (x := 61) (c := 61) (by decide) rfl h1 hs (by omega) (by rw [Hd.out]; exact Hne.out)).mono ?_
        rintro e w2 ⟨rfl, hb2⟩
        exact ⟨rfl, rfl, hb1.trans hb2⟩
      have Hd1 := Lib.hid hd1
      clear hd1
      rcases andThen_bad h with hx | ⟨a, l2, o2, hv, h⟩
      · have Hx := Lib.hid hx
        clear h hx
        go_enter Tryz.func39, Tryz.ntmps39
        go_wp2_with (first | (go_at_call 51; with_reducible refine CN.out.mono ?_; rintro e w1 ⟨rfl, h1, hb1⟩) | (go_at_call 54; with_reducible refine (CM.out _).mono ?_; rintro e w' ⟨rfl, rfl⟩))
        have hdA : s.data.toList.drop (p + 1) = 61 :: l1 := by rw [Hd.out]; exact Hd1.out
        refine (want_at (x := 61) rfl h1 hs (by omega) hdA).mono ?_
        rintro e w2 ⟨rfl, h2, hb2⟩
        have HdA := Lib.hid (drop_cons hdA).2.2
        have hltA := (drop_cons hdA).1
        clear hdA
        go_wp2_with fail
        refine (HVb.out w2 (p + 1 + 1) n v o _ h2 ((hb0.trans hb1).trans hb2) (by omega) ho (by omega) (by rw [HdA.out]; exact Hx.out)).mono ?_
        rintro e w3 ⟨rfl, hb3⟩
        exact ⟨rfl, rfl, (hb1.trans hb2).trans hb3⟩
      have Hv := Lib.hid hv
      clear hv
      rcases pWant_bad h with ⟨rfl, hne⟩ | ⟨l3, hd3, h⟩
      · have Hne := Lib.hid hne
        clear h hne
        go_enter Tryz.func39, Tryz.ntmps39
        go_wp2_with (first | (go_at_call 51; with_reducible refine CN.out.mono ?_; rintro e w1 ⟨rfl, h1, hb1⟩) | (go_at_call 54; with_reducible refine (CM.out _).mono ?_; rintro e w' ⟨rfl, rfl⟩))
        have hdA : s.data.toList.drop (p + 1) = 61 :: l1 := by rw [Hd.out]; exact Hd1.out
        refine (want_at (x := 61) rfl h1 hs (by omega) hdA).mono ?_
        rintro e w2 ⟨rfl, h2, hb2⟩
        have HdA := Lib.hid (drop_cons hdA).2.2
        have hltA := (drop_cons hdA).1
        clear hdA
        go_wp2_with fail
        refine (HV.out w2 (p + 1 + 1) n v o a l2 o2 h2 ((hb0.trans hb1).trans hb2) (by omega) ho (by rw [HdA.out]; exact Hv.out)).mono ?_
        rintro e w3 ⟨rfl, p3, hp3, hd3, ho3, ⟨n3, v3, h3⟩, hb3⟩
        have C3 := Lib.hid (wantBad_at (x := 59) (c := 59) (by decide) rfl h3 hs hp3 (by rw [hd3]; exact Hne.out))
        clear hd3
        go_wp2_with fail
        refine C3.out.mono ?_
        rintro e w4 ⟨rfl, hb4⟩
        exact ⟨rfl, rfl, ((hb1.trans hb2).trans hb3).trans hb4⟩
      · have H := Lib.hid h
        have Hd3 := Lib.hid hd3
        clear h hd3
        go_enter Tryz.func39, Tryz.ntmps39
        go_wp2_with (first | (go_at_call 51; with_reducible refine CN.out.mono ?_; rintro e w1 ⟨rfl, h1, hb1⟩) | (go_at_call 54; with_reducible refine (CM.out _).mono ?_; rintro e w' ⟨rfl, rfl⟩))
        have hdA : s.data.toList.drop (p + 1) = 61 :: l1 := by rw [Hd.out]; exact Hd1.out
        refine (want_at (x := 61) rfl h1 hs (by omega) hdA).mono ?_
        rintro e w2 ⟨rfl, h2, hb2⟩
        have HdA := Lib.hid (drop_cons hdA).2.2
        have hltA := (drop_cons hdA).1
        clear hdA
        go_wp2_with fail
        refine (HV.out w2 (p + 1 + 1) n v o a l2 o2 h2 ((hb0.trans hb1).trans hb2) (by omega) ho (by rw [HdA.out]; exact Hv.out)).mono ?_
        rintro e w3 ⟨rfl, p3, hp3, hd3, ho3, ⟨n3, v3, h3⟩, hb3⟩
        have hdB : s.data.toList.drop p3 = 59 :: l3 := by rw [hd3]; exact Hd3.out
        clear hd3
        have C3 := Lib.hid (want_at (x := 59) rfl h3 hs hp3 hdB)
        clear hdB
        go_wp2_with fail
        refine C3.out.mono ?_
        rintro e w4 ⟨rfl, h4, hb4⟩
        obtain ⟨hm, rfl⟩ := mk5_bad H.out h4.own.1
        have CNd := Lib.hid (node_bad (by rw [← hm]; exact h4) 6 k a 0 0)
        clear hm
        go_wp2_with fail
        refine CNd.out.mono ?_
        rintro e w5 ⟨rfl, hb5⟩
        exact ⟨rfl, rfl, (((hb1.trans hb2).trans hb3).trans hb4).trans hb5⟩
end
set_option maxHeartbeats 8000000 in
theorem list_bad {r : Nat} {s : ByteArray} (hs : s.size ≤ 300) {w0 : World} (hP : Pow10 r w0) (hN : ∀ V, Below r w0 V → NumErrs V) : ∀ f, ListBad r s w0 f := by
  intro f
  induction f with
  | zero => intro w p n v o e _ _ _ _ hf; omega
  | succ f ih =>
    intro w p n v o e hR hb0 hp ho hf h
    rw [pList] at h
    have CE := Lib.hid (fun b hb => ends_any hR hs (by omega) (b := b) hb)
    have hlt := hR.lt
    by_cases he : endsL (s.data.toList.drop p) = true
    · rw [if_pos he] at h
      have CE1 := Lib.hid (CE.out true he)
      have H := Lib.hid h
      clear CE he h ih
      go_enter Tryz.func27, Tryz.ntmps27
      go_wp2_with (go_at_call 37; with_reducible refine CE1.out.mono ?_; rintro e w1 ⟨rfl, h1, hb1⟩)
      obtain ⟨hm, rfl⟩ := mk5_bad H.out h1.own.1
      refine (node_bad (by rw [← hm]; exact h1) 5 0 0 0 0).mono ?_
      rintro e w2 ⟨rfl, hb2⟩
      exact ⟨rfl, rfl, (hb1.mono (Nat.le_of_lt hlt)).trans hb2⟩
    rw [if_neg he] at h
    have CE1 := Lib.hid (CE.out false (by simpa using he))
    have hne : p < s.size := by
      rcases Nat.lt_or_ge p s.size with h1 | h1
      · exact h1
      · rw [List.drop_eq_nil_of_le (by simpa using h1)] at he; exact absurd rfl he
    rcases andThen_bad h with h1 | ⟨a, l1, o1, h1, h⟩
    · have HO := Lib.hid (fun V (hV : RdAt V r s p n v o) (hb : Below r w0 V) => one_bad hs hP hN (list_good hs hP f) ih hV hb hp ho hf h1)
      clear CE he h h1 ih
      go_enter Tryz.func27, Tryz.ntmps27
      go_wp2_with (go_at_call 37; with_reducible refine CE1.out.mono ?_; rintro e w1 ⟨rfl, h1, hb1⟩)
      have hb1' := hb1.mono (Nat.le_of_lt hlt)
      refine (HO.out _ h1 (hb0.trans hb1')).mono ?_
      rintro e w2 ⟨rfl, hb2⟩
      exact ⟨rfl, rfl, hb1'.trans hb2⟩
    have hsh := pOne_short (fun h => pList_short h) h1
    have hle : (s.data.toList.drop p).length = s.size - p := drop_len rfl hp
    have hsh2 : l1.length < s.size - p := by omega
    by_cases he2 : endsL l1 = true
    · rw [if_pos he2] at h; cases h
    rw [if_neg he2] at h
    have HO := Lib.hid (fun V (hV : RdAt V r s p n v o) (hb : Below r w0 V) => one_good hs hP (list_good hs hP f) hV hb hp ho h1)
    have He2 := Lib.hid (show endsL l1 = false by simpa using he2)
    have Hih := Lib.hid ih
    clear CE he he2 h1 ih hsh hle
    rcases andThen_bad h with hx | ⟨b, l2, o2, hv, h⟩
    · have Hx := Lib.hid hx
      clear h hx
      go_enter Tryz.func27, Tryz.ntmps27
      go_wp2_with (go_at_call 37; with_reducible refine CE1.out.mono ?_; rintro e w1 ⟨rfl, h1, hb1⟩)
      have hb1' := hb1.mono (Nat.le_of_lt hlt)
      refine (HO.out _ h1 (hb0.trans hb1')).mono ?_
      rintro e w2 ⟨rfl, p2, hp2, hd2, ho2, ⟨n2, v2, h2⟩, hb2⟩
      have hl2 : s.size - p2 ≤ l1.length := Nat.le_of_eq (drop_len hd2 hp2).symm
      have CE3 := Lib.hid (ends_any h2 hs (by omega) (b := false) (by rw [hd2]; exact He2.out))
      have Hd2 := Lib.hid hd2
      clear hd2 CE1 HO
      go_wp2_with (go_at_call 37; with_reducible refine CE3.out.mono ?_; rintro e w3 ⟨rfl, h3, hb3⟩)
      have hb3' := hb3.mono (Nat.le_of_lt h2.lt)
      refine (Hih.out w3 p2 n2 v2 o1 _ h3 (((hb0.trans hb1').trans hb2).trans hb3') hp2 ho2 (by omega) (by rw [Hd2.out]; exact Hx.out)).mono ?_
      rintro e w4 ⟨rfl, hb4⟩
      exact ⟨rfl, rfl, ((hb1'.trans hb2).trans hb3').trans hb4⟩
    · have H := Lib.hid h
      have Hv := Lib.hid hv
      have HLG := Lib.hid (list_good hs hP f)
      clear h hv
      go_enter Tryz.func27, Tryz.ntmps27
      go_wp2_with (go_at_call 37; with_reducible refine CE1.out.mono ?_; rintro e w1 ⟨rfl, h1, hb1⟩)
      have hb1' := hb1.mono (Nat.le_of_lt hlt)
      refine (HO.out _ h1 (hb0.trans hb1')).mono ?_
      rintro e w2 ⟨rfl, p2, hp2, hd2, ho2, ⟨n2, v2, h2⟩, hb2⟩
      have CE3 := Lib.hid (ends_any h2 hs (by omega) (b := false) (by rw [hd2]; exact He2.out))
      have Hd2 := Lib.hid hd2
      clear hd2 CE1 HO
      go_wp2_with (go_at_call 37; with_reducible refine CE3.out.mono ?_; rintro e w3 ⟨rfl, h3, hb3⟩)
      have hb3' := hb3.mono (Nat.le_of_lt h2.lt)
      refine (HLG.out w3 p2 n2 v2 o1 b l2 o2 h3 (((hb0.trans hb1').trans hb2).trans hb3') hp2 ho2 (by rw [Hd2.out]; exact Hv.out)).mono ?_
      rintro e w4 ⟨rfl, p4, hp4, hd4, ho4, ⟨n4, v4, h4⟩, hb4⟩
      obtain ⟨hm, rfl⟩ := mk5_bad H.out h4.own.1
      have CNd := Lib.hid (node_bad (by rw [← hm]; exact h4) 7 0 a b 0)
      clear hm hd4
      go_wp2_with fail
      refine CNd.out.mono ?_
      rintro e w5 ⟨rfl, hb5⟩
      exact ⟨rfl, rfl, (((hb1'.trans hb2).trans hb3').trans hb4).trans hb5⟩
end Go.Proofs.YtfpghfmdkbdojaaGreatDoor

namespace Go.Proofs.YtfpghfmdkbdojaaGreatDoor
open Go.RowKit
set_option maxRecDepth 100000
set_option linter.unusedVariables false

set_option maxHeartbeats 4000000 in
theorem catch_wrong {p q : Nat} (hpq : p < q) {k : Int} {older : List PanicEntry} {w : World} {x y : Value} (hp : BoxN w p 22 #[x]) (hq : BoxN w q 26 #[y]) :
    CallsD Tryz.prog 26 #[.pointer (some ⟨p, 0, none⟩), .pointer (some ⟨q, 0, none⟩)] (.panicking ({ v := .iface 62 (.agg #[.int .i64 k]), recovered := false } :: older)) w fun e u' w' =>
      e = .returned (.tuple #[]) ∧ u' = .panicking ({ v := .iface 62 (.agg #[.int .i64 k]), recovered := true } :: older) ∧ BoxN w' p 22 #[.slice none 0 0] ∧ BoxN w' q 26 #[.iface 43 (.int .i64 k)] ∧ Below p w w' := by
  have hta : ∀ w : World, (Instr.typeAssert (.iface 62 (.agg #[.int .i64 k])) 20 62 true).run Tryz.prog w = .ok (.tuple #[.agg #[.int .i64 k], .bool true]) w := fun w => by kernel_rfl
  have hpl : p < w.heap.size := hp.lt
  have hql : q < w.heap.size := hq.lt
  have fp : w.frozen? ⟨p, 0, none⟩ = false := hp.free 0
  have fq : w.frozen? ⟨q, 0, none⟩ = false := hq.free 0
  have cp := hp.cell (k := 0) rfl
  have cq := hq.cell (k := 0) rfl
  have hne : p ≠ q := by omega
  have hne' : q ≠ p := by omega
  refine callsD_of_wpS Tryz.func26 rfl fun c₀ cs hu => ?_
  apply wpS_seq
  apply wpS_region
  simp [wpOpsS, go_sem, recoverD, hu, Tryz.ntmps26, Exit.thenS]
  refine wpS_of_wp ?_
  go_wp2
  go_region
  all_goals
    cases c₀
    simp +zetaDelta only [Exit.inBlock, bodyPostS, results, Tryz.results26]
    simp
    have h1 := (((hp.set 0 (.slice none 0 0)).other (a := ⟨q, 0, none⟩) hne (.iface 43 (.int .i64 k))).alloc (.cells #[.int .i64 k] 62)).drew
    have h2 := (((hq.other (a := ⟨p, 0, none⟩) hne' (.slice none 0 0)).set 0 (.iface 43 (.int .i64 k))).alloc (.cells #[.int .i64 k] 62)).drew
    have h3 := ((((Below.refl p w).setCell (p := ⟨p, 0, none⟩) (Nat.le_refl _) (.slice none 0 0)).setCell (p := ⟨q, 0, none⟩) (Nat.le_of_lt hpq) (.iface 43 (.int .i64 k))).alloc (by simp; omega) (.cells #[.int .i64 k] 62)).drew
    exact ⟨h1, h2, h3⟩
/-- What Read gives of a text that is wrong. -/
def ReadBad (k : Nat) (w : World) (e : Ending) (w' : World) : Prop := e = .returned (.tuple #[.slice none 0 0, .iface 43 (.int .i64 k)]) ∧ Below w.heap.size w w'
set_option maxHeartbeats 8000000 in
theorem Read_bad {s : ByteArray} (hs : s.size ≤ 300) {w : World} (hP : Pow10 w.heap.size w) (hN : ∀ V, Below w.heap.size w V → NumErrs V) {f k : Nat} (hf : s.size < f) (h : pList f s.data.toList [] = .bad k) :
    Calls Tryz.prog 10 #[.string s] w (ReadBad k w) := by
  have hmf : ∀ (fn : Fn) (first cap : Array Value) (w : World), (Instr.makeFunc fn first cap).run Tryz.prog w = .ok (.func fn first cap) w := fun _ _ _ _ => rfl
  have hs2 : (s.size : Int) ≤ 300 := by omega
  have d300 : decide ((s.size : Int) > 300) = false := by simp; omega
  have d300' : decide (300 < s.size) = false := by simp; omega
  have hb1 := (Below.refl w.heap.size w).alloc (Nat.le_refl _) (.cells #[.slice none 0 0] 22)
  have hs1 : (w.alloc (.cells #[.slice none 0 0] 22)).heap.size = w.heap.size + 1 := by simp
  have hc1 := BoxN.new w 22 #[.slice none 0 0]
  have hb2 := hb1.alloc hb1.size (.cells #[.nilIface] 26)
  have hs2 : ((w.alloc (.cells #[.slice none 0 0] 22)).alloc (.cells #[.nilIface] 26)).heap.size = w.heap.size + 1 + 1 := by simp
  have hc2 : BoxN ((w.alloc (.cells #[.slice none 0 0] 22)).alloc (.cells #[.nilIface] 26)) (w.heap.size + 1) 26 #[.nilIface] := by
    have := BoxN.new (w.alloc (.cells #[.slice none 0 0] 22)) 26 #[.nilIface]
    rw [hs1] at this
    exact this
  have hc1' := hc1.alloc (.cells #[.nilIface] 26)
  have hc3 : BoxN (((w.alloc (.cells #[.slice none 0 0] 22)).alloc (.cells #[.nilIface] 26)).alloc (.cells #[.string s, .int .i64 0, .slice none 0 0] 64)) (w.heap.size + 1 + 1) 64 #[.string s, .int .i64 ((0 : Nat) : Int), .slice none 0 0] := by
    have := BoxN.new ((w.alloc (.cells #[.slice none 0 0] 22)).alloc (.cells #[.nilIface] 26)) 64 #[.string s, .int .i64 ((0 : Nat) : Int), .slice none 0 0]
    rw [hs2] at this
    exact this
  have hb3 := hb2.alloc hb2.size (.cells #[.string s, .int .i64 0, .slice none 0 0] 64)
  have hcA := hc1'.alloc (.cells #[.string s, .int .i64 0, .slice none 0 0] 64)
  have hcB := hc2.alloc (.cells #[.string s, .int .i64 0, .slice none 0 0] 64)
  have H := Lib.hid h
  have HP := Lib.hid hP
  have HN := Lib.hid hN
  clear hs1 hs2 hc1 hc2 hc1' hb1 hb2 h hP hN
  go_enter_defers Tryz.func10, Tryz.ntmps10
  go_wp2_with fail
  generalize ((w.alloc (.cells #[.slice none 0 0] 22)).alloc (.cells #[.nilIface] 26)).alloc (.cells #[.string s, .int .i64 0, .slice none 0 0] 64) = w3 at *
  have hR : RdAt w3 (w.heap.size + 1 + 1) s 0 0 (.slice none 0 0) [] := ⟨hc3, OwnN.nil _ _⟩
  have hlt := hR.lt
  have hP3 : Pow10 (w.heap.size + 1 + 1) w3 := HP.out.next hb3 (by omega) (Nat.le_refl _)
  refine (list_bad (r := w.heap.size + 1 + 1) hs hP3 (fun V hV => HN.out V (hb3.trans (hV.mono (by omega)))) f w3 0 0 _ [] k hR (Below.refl _ _) (Nat.zero_le _) (Nat.zero_le _) (by omega) H.out).mono ?_
  rintro e w4 ⟨rfl, hb4⟩
  have yA := hcA.below hb4 (by omega)
  have yB := hcB.below hb4 (by omega)
  have hbw := hb3.trans (hb4.mono (by omega))
  clear hc3 hcA hcB hb4 hb3 hP3 hR
  refine leaves_cons (f := 26) (args := #[.pointer (some ⟨w.heap.size, 0, none⟩), .pointer (some ⟨w.heap.size + 1, 0, none⟩)]) (by simp) (by simp [go_sem]) ?_
  refine (catch_wrong (by omega) yA yB).mono ?_
  rintro e u' w'' ⟨rfl, rfl, h1, h2, h3⟩
  have z0 := h1.cell (k := 0) rfl
  have z1 := h2.cell (k := 0) rfl
  have HG := Lib.hid (hbw.trans h3)
  clear hbw h3 h1 h2
  simp [Leaves, settle, results, Tryz.results10, go_sem, z0, z1]
  exact ⟨rfl, HG.out⟩
end Go.Proofs.YtfpghfmdkbdojaaGreatDoor

namespace Go.Proofs.YtfpghfmdkbdojaaGreatDoor
open Go.RowKit
set_option maxRecDepth 100000
set_option linter.unusedVariables false

theorem Read_full {s : ByteArray} (hs : s.size > 300) {w : World} :
    Calls Tryz.prog 10 #[.string s] w (ReadBad 4 w) := by
  have hs2 : (s.size : Int) > 300 := by omega
  have d300 : decide ((s.size : Int) > 300) = true := by simp; omega
  have d300' : decide (300 < s.size) = true := by simp; omega
  have hb := ((Below.refl w.heap.size w).alloc (Nat.le_refl _) (.cells #[.slice none 0 0] 22))
  have hb2 := hb.alloc hb.size (.cells #[.nilIface] 26)
  go_enter Tryz.func10, Tryz.ntmps10
  go_wp2_with fail
  have hc1 : BoxN ((w.alloc (.cells #[.slice none 0 0] 22)).alloc (.cells #[.iface 43 (.int .i64 4)] 26)) w.heap.size 22 #[.slice none 0 0] := (BoxN.new w 22 #[.slice none 0 0]).alloc _
  have hc2 : BoxN ((w.alloc (.cells #[.slice none 0 0] 22)).alloc (.cells #[.iface 43 (.int .i64 4)] 26)) (w.heap.size + 1) 26 #[.iface 43 (.int .i64 4)] := by
    have := BoxN.new (w.alloc (.cells #[.slice none 0 0] 22)) 26 #[.iface 43 (.int .i64 4)]
    rw [show (w.alloc (.cells #[.slice none 0 0] 22)).heap.size = w.heap.size + 1 by simp] at this
    exact this
  have z0 := hc1.cell (k := 0) rfl
  have z1 := hc2.cell (k := 0) rfl
  have hb3 := hb.alloc hb.size (.cells #[.iface 43 (.int .i64 4)] 26)
  simp [bodyPost, results, Tryz.results10, go_sem, z0, z1]
  exact ⟨rfl, hb3⟩
set_option maxHeartbeats 8000000 in
theorem Read_rest {s : ByteArray} (hs : s.size ≤ 300) {w : World} (hP : Pow10 w.heap.size w) {f i : Nat} {rest : List UInt8} {o : List Int} (hr : rest ≠ []) (h : pList f s.data.toList [] = .good i rest o) :
    Calls Tryz.prog 10 #[.string s] w (ReadBad 2 w) := by
  have hmf : ∀ (fn : Fn) (first cap : Array Value) (w : World), (Instr.makeFunc fn first cap).run Tryz.prog w = .ok (.func fn first cap) w := fun _ _ _ _ => rfl
  have hs2 : (s.size : Int) ≤ 300 := by omega
  have d300 : decide ((s.size : Int) > 300) = false := by simp; omega
  have d300' : decide (300 < s.size) = false := by simp; omega
  have hb1 := (Below.refl w.heap.size w).alloc (Nat.le_refl _) (.cells #[.slice none 0 0] 22)
  have hs1 : (w.alloc (.cells #[.slice none 0 0] 22)).heap.size = w.heap.size + 1 := by simp
  have hc1 := BoxN.new w 22 #[.slice none 0 0]
  have hb2 := hb1.alloc hb1.size (.cells #[.nilIface] 26)
  have hs2 : ((w.alloc (.cells #[.slice none 0 0] 22)).alloc (.cells #[.nilIface] 26)).heap.size = w.heap.size + 1 + 1 := by simp
  have hc2 : BoxN ((w.alloc (.cells #[.slice none 0 0] 22)).alloc (.cells #[.nilIface] 26)) (w.heap.size + 1) 26 #[.nilIface] := by
    have := BoxN.new (w.alloc (.cells #[.slice none 0 0] 22)) 26 #[.nilIface]
    rw [hs1] at this
    exact this
  have hc1' := hc1.alloc (.cells #[.nilIface] 26)
  have hc3 : BoxN (((w.alloc (.cells #[.slice none 0 0] 22)).alloc (.cells #[.nilIface] 26)).alloc (.cells #[.string s, .int .i64 0, .slice none 0 0] 64)) (w.heap.size + 1 + 1) 64 #[.string s, .int .i64 ((0 : Nat) : Int), .slice none 0 0] := by
    have := BoxN.new ((w.alloc (.cells #[.slice none 0 0] 22)).alloc (.cells #[.nilIface] 26)) 64 #[.string s, .int .i64 ((0 : Nat) : Int), .slice none 0 0]
    rw [hs2] at this
    exact this
  have hb3 := hb2.alloc hb2.size (.cells #[.string s, .int .i64 0, .slice none 0 0] 64)
  have hcA := hc1'.alloc (.cells #[.string s, .int .i64 0, .slice none 0 0] 64)
  have hcB := hc2.alloc (.cells #[.string s, .int .i64 0, .slice none 0 0] 64)
  have H := Lib.hid h
  have HP := Lib.hid hP
  clear hs1 hs2 hc1 hc2 hc1' hb1 hb2 h hP
  go_enter_defers Tryz.func10, Tryz.ntmps10
  go_wp2_with fail
  generalize ((w.alloc (.cells #[.slice none 0 0] 22)).alloc (.cells #[.nilIface] 26)).alloc (.cells #[.string s, .int .i64 0, .slice none 0 0] 64) = w3 at *
  have hR : RdAt w3 (w.heap.size + 1 + 1) s 0 0 (.slice none 0 0) [] := ⟨hc3, OwnN.nil _ _⟩
  have hlt := hR.lt
  have hP3 : Pow10 (w.heap.size + 1 + 1) w3 := HP.out.next hb3 (by omega) (Nat.le_refl _)
  refine (list_good (r := w.heap.size + 1 + 1) hs hP3 f w3 0 0 _ [] i rest o hR (Below.refl _ _) (Nat.zero_le _) (Nat.zero_le _) H.out).mono ?_
  rintro e w4 ⟨rfl, p4, hp4, hd4, ho4, ⟨n4, v4, h4⟩, hb4⟩
  have hne : p4 ≠ s.size := by
    rintro rfl
    apply hr
    rw [← hd4]
    apply List.drop_eq_nil_of_le
    simp
  have dne : decide ((p4 : Int) ≠ s.size) = true := by simp; omega
  have x1 := h4.at_
  have yA := hcA.below hb4 (by omega)
  have yB := hcB.below hb4 (by omega)
  have hbw := hb3.trans (hb4.mono (by omega))
  clear hc3 hcA hcB hd4 hb4 hb3 hP3 hR h4
  go_wp2_with (go_at_call 28; with_reducible refine (fail_any _ _ _).mono ?_; rintro e w5 ⟨rfl, rfl⟩)
  refine leaves_cons (f := 26) (args := #[.pointer (some ⟨w.heap.size, 0, none⟩), .pointer (some ⟨w.heap.size + 1, 0, none⟩)]) (by simp) (by simp [go_sem]) ?_
  refine (catch_wrong (by omega) yA yB).mono ?_
  rintro e u' w'' ⟨rfl, rfl, h1, h2, h3⟩
  have z0 := h1.cell (k := 0) rfl
  have z1 := h2.cell (k := 0) rfl
  have HG := Lib.hid (hbw.trans h3)
  clear hbw h3 h1 h2
  simp [Leaves, settle, results, Tryz.results10, go_sem, z0, z1]
  exact ⟨rfl, HG.out⟩
/-- What a text says. -/
def readP (s : ByteArray) : PR := if s.size > 300 then .bad 4 else
  match pList (s.size + 1) s.data.toList [] with
  | .bad k => .bad k
  | .good i [] o => .good i [] o
  | .good _ (_ :: _) _ => .bad 2
def ReadSaid (s : ByteArray) (w : World) (e : Ending) (w' : World) : Prop := match readP s with
  | .bad k => ReadBad k w e w'
  | .good _ _ o => ReadGood o w e w'
theorem Read_any {s : ByteArray} {w : World} (hP : Pow10 w.heap.size w) (hN : ∀ V, Below w.heap.size w V → NumErrs V) :
    Calls Tryz.prog 10 #[.string s] w (ReadSaid s w) := by
  by_cases h0 : s.size > 300
  · refine (Read_full h0).mono fun e w' h => ?_
    unfold ReadSaid readP
    rw [if_pos h0]
    exact h
  cases h : pList (s.size + 1) s.data.toList [] with
  | bad k =>
    refine (Read_bad (by omega) hP hN (Nat.lt_succ_self _) h).mono fun e w' g => ?_
    unfold ReadSaid readP
    rw [if_neg h0, h]
    exact g
  | good i l o =>
    cases l with
    | nil =>
      refine (Read_good (by omega) hP h).mono fun e w' g => ?_
      unfold ReadSaid readP
      rw [if_neg h0, h]
      exact g
    | cons x l =>
      refine (Read_rest (by omega) hP (List.cons_ne_nil x l) h).mono fun e w' g => ?_
      unfold ReadSaid readP
      rw [if_neg h0, h]
      exact g
end Go.Proofs.YtfpghfmdkbdojaaGreatDoor
