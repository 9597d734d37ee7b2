/-
  Contracts: the reader's block, one and list, where the text is wrong.
-/
import Derived.Test.YtdgncngkalgknaaDoorRdG
namespace Go.Proofs.YtdgncngkalgknaaDoor
open Go.RowKit
set_option maxRecDepth 100000
set_option linter.unusedVariables false

theorem pWant_bad {c : UInt8} {l : List UInt8} {o : List Int} {F : List UInt8 → List Int → PR} {e : Nat} (h : pWant c l o F = .bad e) : (e = 2 ∧ ∀ r, l ≠ c :: r) ∨ ∃ r, l = c :: r ∧ F r o = .bad e := by
  unfold pWant at h
  cases l with
  | nil => injection h with h; exact .inl ⟨h.symm, fun r e => by cases e⟩
  | cons x r =>
    dsimp only at h
    split at h
    · rename_i e; subst e; exact .inr ⟨r, rfl, h⟩
    · rename_i hne
      injection h with h
      exact .inl ⟨h.symm, fun r e => hne (by injection e)⟩
theorem andThen_bad {a : PR} {F : Nat → List UInt8 → List Int → PR} {e : Nat} (h : a.andThen F = .bad e) : a = .bad e ∨ ∃ i1 l1 o1, a = .good i1 l1 o1 ∧ F i1 l1 o1 = .bad e := by
  cases a with
  | bad e1 => exact .inl h
  | good i1 l1 o1 => exact .inr ⟨i1, l1, o1, rfl, h⟩
theorem peek_ne {s : ByteArray} {p : Nat} {c : UInt8} (hc : c ≠ 0) (h : ∀ r, s.data.toList.drop p ≠ c :: r) : peekV s p ≠ (c.toNat : Int) := by
  cases hd : s.data.toList.drop p with
  | nil =>
    have hps : s.size ≤ p := by
      have := congrArg List.length hd
      rw [List.length_drop, List.length_nil] at this
      have h2 : s.data.toList.length = s.size := by simp
      omega
    rw [peekV_end hps]
    have : c.toNat ≠ 0 := fun e => hc (UInt8.toNat_inj.1 e)
    omega
  | cons x l =>
    rw [(drop_cons hd).2.1]
    intro e
    have : x = c := UInt8.toNat_inj.1 (by omega)
    subst this
    exact h l hd
/-- What list does with fuel f, where the text is wrong. -/
def ListBad (r : Nat) (s : ByteArray) (w0 : World) (f : Nat) : Prop := ∀ (w : World) (p n : Nat) (v : Value) (o : List Int) (e : Nat), RdAt w r s p n v o → Below r w0 w → p ≤ s.size → o.length ≤ 400 → s.size - p < f → pList f (s.data.toList.drop p) o = .bad e →
    Calls Tryd.prog 35 #[.pointer (some ⟨r, 0, none⟩)] w (RdBad r e w)
section
variable {w w0 : World} {r : Nat} {s : ByteArray} {p n f : Nat} {v : Value} {o : List Int}
theorem wantBad_at {c : UInt8} {x : Int} (hc : c ≠ 0) (hx : (c.toNat : Int) = x) (h : RdAt w r s p n v o) (hs : s.size ≤ 300) (hp : p ≤ s.size) (hd : ∀ r, s.data.toList.drop p ≠ c :: r) :
    Calls Tryd.prog 88 #[.pointer (some ⟨r, 0, none⟩), .int .u8 x] w (RdBad r 2 w) := by
  subst hx
  exact want_bad h hs (by omega) (peek_ne hc hd)
set_option maxHeartbeats 4000000 in
theorem block_bad {e : Nat} (hs : s.size ≤ 300) (HL : ListGood r s w0 f) (HB : ListBad r s w0 f) (hR : RdAt w r s p n v o) (hb0 : Below r w0 w) (hp : p ≤ s.size) (ho : o.length ≤ 400) (hf : s.size - p < f + 1) (h : pBlock (pList f) (s.data.toList.drop p) o = .bad e) :
    Calls Tryd.prog 86 #[.pointer (some ⟨r, 0, none⟩)] w (RdBad r e w) := by
  rcases pWant_bad h with ⟨rfl, hd⟩ | ⟨l1, hd, h⟩
  · have C1 := Lib.hid (wantBad_at (x := 123) (c := 123) (by decide) rfl hR hs hp hd)
    clear hd hR HL HB h
    go_enter Tryd.func86, Tryd.ntmps86
    go_wp2_with fail
    refine C1.out.mono ?_
    rintro e w1 ⟨rfl, hb1⟩
    exact ⟨rfl, rfl, hb1⟩
  have C1 := Lib.hid (want_at (x := 123) rfl hR hs hp hd)
  have Hd := Lib.hid (drop_cons hd).2.2
  have hlt := (drop_cons hd).1
  rcases andThen_bad h with h1 | ⟨i1, l2, o1, hl, h⟩
  · have H1 := Lib.hid h1
    have HBh := Lib.hid HB
    clear hd hR HL HB h h1
    go_enter Tryd.func86, Tryd.ntmps86
    go_wp2_with fail
    refine C1.out.mono ?_
    rintro e w1 ⟨rfl, h1, hb1⟩
    go_wp2_with fail
    refine (HBh.out w1 (p + 1) n v o _ h1 (hb0.trans hb1) (by omega) ho (by omega) (by rw [Hd.out]; exact H1.out)).mono ?_
    rintro e w2 ⟨rfl, hb2⟩
    exact ⟨rfl, rfl, hb1.trans hb2⟩
  · have hw : e = 2 ∧ ∀ r, l2 ≠ 125 :: r := by
      rcases pWant_bad h with hh | ⟨l3, hd3, h3⟩
      · exact hh
      · cases h3
    obtain ⟨rfl, hne⟩ := hw
    have Hl := Lib.hid hl
    have HLh := Lib.hid HL
    have Hne := Lib.hid hne
    clear hd hl hR HL HB h hne
    go_enter Tryd.func86, Tryd.ntmps86
    go_wp2_with fail
    refine C1.out.mono ?_
    rintro e w1 ⟨rfl, h1, hb1⟩
    go_wp2_with fail
    refine (HLh.out w1 (p + 1) n v o i1 l2 o1 h1 (hb0.trans hb1) (by omega) ho (by rw [Hd.out]; exact Hl.out)).mono ?_
    rintro e w2 ⟨rfl, p2, hp2, hd2, ho2, ⟨n2, v2, h2⟩, hb2⟩
    have C2 := Lib.hid (wantBad_at (x := 125) (c := 125) (by decide) rfl h2 hs hp2 (by rw [hd2]; exact Hne.out))
    clear hd2 C1
    go_wp2_with fail
    refine C2.out.mono ?_
    rintro e w3 ⟨rfl, hb3⟩
    exact ⟨rfl, rfl, (hb1.trans hb2).trans hb3⟩
set_option maxHeartbeats 16000000 in
theorem one_bad {e : Nat} (hs : s.size ≤ 300) (hP : Pow10 r w0) (hN : ∀ V, Below r w0 V → NumErrs V) (HL : ListGood r s w0 f) (HLB : ListBad r s w0 f) (hR : RdAt w r s p n v o) (hb0 : Below r w0 w) (hp : p ≤ s.size) (ho : o.length ≤ 400) (hf : s.size - p < f + 1) (h : pOne (pValue f) (pList f) (s.data.toList.drop p) o = .bad e) :
    Calls Tryd.prog 64 #[.pointer (some ⟨r, 0, none⟩)] w (RdBad r e w) := by
  have HV := Lib.hid (value_good hs hP f)
  have HVb := Lib.hid (fun (w : World) (p n : Nat) (v : Value) (o : List Int) (e : Nat) (hR : RdAt w r s p n v o) (hb : Below r w0 w) (hp : p ≤ s.size) (ho : o.length ≤ 400) (hf : s.size - p < f) (h : pValue f (s.data.toList.drop p) o = .bad e) => value_bad hs hP hN f w p n v o e hR hb hp ho hf h)
  have HB := Lib.hid (fun (w : World) (p n : Nat) (v : Value) (o : List Int) (i : Nat) (l' : List UInt8) (o' : List Int) (hR : RdAt w r s p n v o) (hb : Below r w0 w) (hp : p ≤ s.size) (ho : o.length ≤ 400) (h : pBlock (pList f) (s.data.toList.drop p) o = .good i l' o') => block_good hs HL hR hb hp ho h)
  have HBb := Lib.hid (fun (w : World) (p n : Nat) (v : Value) (o : List Int) (e : Nat) (hR : RdAt w r s p n v o) (hb : Below r w0 w) (hp : p ≤ s.size) (ho : o.length ≤ 400) (hf : s.size - p < f + 1) (h : pBlock (pList f) (s.data.toList.drop p) o = .bad e) => block_bad hs HL HLB hR hb hp ho hf h)
  cases hd : s.data.toList.drop p with
  | nil =>
    rw [hd, pOne] at h
    injection h with h
    subst h
    have hps : s.size ≤ p := by have := drop_len hd hp; simp at this; omega
    have CN := next_any hR hs (by omega)
    rw [peekV_end hps] at CN
    have CN := Lib.hid CN
    have CM := Lib.hid (fun V => name_bad (x := 0) (by omega) (by omega) (by omega) r V)
    clear hd hR HL HLB hP hN
    go_enter Tryd.func64, Tryd.ntmps64
    go_wp2_with (go_at_call 84; with_reducible refine CN.out.mono ?_; rintro e w1 ⟨rfl, h1, hb1⟩)
    refine (CM.out _).mono ?_
    rintro e w2 ⟨rfl, hb2⟩
    exact ⟨rfl, rfl, hb1.trans hb2⟩
  | cons c l =>
    obtain ⟨hlt, hpk, hdl⟩ := drop_cons hd
    rw [hd] at h
    unfold pOne at h
    dsimp only at h
    have CN := next_any hR hs (by omega)
    rw [hpk] at CN
    have CN := Lib.hid CN
    have Hd := Lib.hid hdl
    have hll : l.length ≤ s.size - (p + 1) := Nat.le_of_eq (drop_len hdl (by omega))
    clear hd hpk hdl HL HLB hR hP hN
    by_cases h63 : c = 63
    · subst h63
      rw [if_pos rfl] at h
      have dq : (((63 : UInt8).toNat : Int) == 63) = true := by decide
      rcases andThen_bad h with hx | ⟨a, l1, o1, hv0, h⟩
      · have Hx := Lib.hid hx
        clear h hx 
        generalize ((63 : UInt8).toNat : Int) = x at *
        go_enter Tryd.func64, Tryd.ntmps64
        go_wp2_with (go_at_call 84; with_reducible refine CN.out.mono ?_; rintro e w1 ⟨rfl, h1, hb1⟩)
        refine (HVb.out w1 (p + 1) n v o _ h1 (hb0.trans (hb1)) (by omega) ho (by omega) (by rw [Hd.out]; exact Hx.out)).mono ?_
        rintro e w2 ⟨rfl, hb2⟩
        exact ⟨rfl, rfl, hb1.trans hb2⟩
      rcases andThen_bad h with hx | ⟨b, l2, o2, hv1, h⟩
      · have Hx := Lib.hid hx
        have Hv0 := Lib.hid hv0
        have hsh0 := pValue_short hv0
        clear h hx hv0
        generalize ((63 : UInt8).toNat : Int) = x at *
        go_enter Tryd.func64, Tryd.ntmps64
        go_wp2_with (go_at_call 84; with_reducible refine CN.out.mono ?_; rintro e w1 ⟨rfl, h1, hb1⟩)
        refine (HV.out w1 (p + 1) n v o a l1 o1 h1 (hb0.trans (hb1)) (by omega) ho (by rw [Hd.out]; exact Hv0.out)).mono ?_
        rintro e w2 ⟨rfl, p2, hp2, hd2, ho2, ⟨n2, v2, h2⟩, hb2⟩
        have hl2 : s.size - p2 ≤ l1.length := Nat.le_of_eq (drop_len hd2 hp2).symm
        have Hd2 := Lib.hid hd2
        clear hd2
        go_wp2_with fail
        refine (HBb.out w2 p2 n2 v2 o1 _ h2 (hb0.trans (hb1.trans hb2)) hp2 ho2 (by omega) (by rw [Hd2.out]; exact Hx.out)).mono ?_
        rintro e w3 ⟨rfl, hb3⟩
        exact ⟨rfl, rfl, (hb1.trans hb2).trans hb3⟩
      rcases andThen_bad h with hx | ⟨d, l3, o3, hv2, h⟩
      · have Hx := Lib.hid hx
        have Hv0 := Lib.hid hv0
        have Hv1 := Lib.hid hv1
        have hsh0 := pValue_short hv0
        have hsh1 := pBlock_short (fun h => pList_short h) hv1
        clear h hx hv0 hv1
        generalize ((63 : UInt8).toNat : Int) = x at *
        go_enter Tryd.func64, Tryd.ntmps64
        go_wp2_with (go_at_call 84; with_reducible refine CN.out.mono ?_; rintro e w1 ⟨rfl, h1, hb1⟩)
        refine (HV.out w1 (p + 1) n v o a l1 o1 h1 (hb0.trans (hb1)) (by omega) ho (by rw [Hd.out]; exact Hv0.out)).mono ?_
        rintro e w2 ⟨rfl, p2, hp2, hd2, ho2, ⟨n2, v2, h2⟩, hb2⟩
        have hl2 : s.size - p2 ≤ l1.length := Nat.le_of_eq (drop_len hd2 hp2).symm
        have Hd2 := Lib.hid hd2
        clear hd2
        go_wp2_with fail
        refine (HB.out w2 p2 n2 v2 o1 b l2 o2 h2 (hb0.trans (hb1.trans hb2)) hp2 ho2 (by rw [Hd2.out]; exact Hv1.out)).mono ?_
        rintro e w3 ⟨rfl, p3, hp3, hd3, ho3, ⟨n3, v3, h3⟩, hb3⟩
        have hl3 : s.size - p3 ≤ l2.length := Nat.le_of_eq (drop_len hd3 hp3).symm
        have Hd3 := Lib.hid hd3
        clear hd3
        go_wp2_with fail
        refine (HBb.out w3 p3 n3 v3 o2 _ h3 (hb0.trans ((hb1.trans hb2).trans hb3)) hp3 ho3 (by omega) (by rw [Hd3.out]; exact Hx.out)).mono ?_
        rintro e w4 ⟨rfl, hb4⟩
        exact ⟨rfl, rfl, ((hb1.trans hb2).trans hb3).trans hb4⟩
      have H := Lib.hid h
      have Hv0 := Lib.hid hv0
      have Hv1 := Lib.hid hv1
      have Hv2 := Lib.hid hv2
      clear h hv0 hv1 hv2
      generalize ((63 : UInt8).toNat : Int) = x at *
      go_enter Tryd.func64, Tryd.ntmps64
      go_wp2_with (go_at_call 84; with_reducible refine CN.out.mono ?_; rintro e w1 ⟨rfl, h1, hb1⟩)
      refine (HV.out w1 (p + 1) n v o a l1 o1 h1 (hb0.trans (hb1)) (by omega) ho (by rw [Hd.out]; exact Hv0.out)).mono ?_
      rintro e w2 ⟨rfl, p2, hp2, hd2, ho2, ⟨n2, v2, h2⟩, hb2⟩
      have hl2 : s.size - p2 ≤ l1.length := Nat.le_of_eq (drop_len hd2 hp2).symm
      have Hd2 := Lib.hid hd2
      clear hd2
      go_wp2_with fail
      refine (HB.out w2 p2 n2 v2 o1 b l2 o2 h2 (hb0.trans (hb1.trans hb2)) hp2 ho2 (by rw [Hd2.out]; exact Hv1.out)).mono ?_
      rintro e w3 ⟨rfl, p3, hp3, hd3, ho3, ⟨n3, v3, h3⟩, hb3⟩
      have hl3 : s.size - p3 ≤ l2.length := Nat.le_of_eq (drop_len hd3 hp3).symm
      have Hd3 := Lib.hid hd3
      clear hd3
      go_wp2_with fail
      refine (HB.out w3 p3 n3 v3 o2 d l3 o3 h3 (hb0.trans ((hb1.trans hb2).trans hb3)) hp3 ho3 (by rw [Hd3.out]; exact Hv2.out)).mono ?_
      rintro e w4 ⟨rfl, p4, hp4, hd4, ho4, ⟨n4, v4, h4⟩, hb4⟩
      have hl4 : s.size - p4 ≤ l3.length := Nat.le_of_eq (drop_len hd4 hp4).symm
      have Hd4 := Lib.hid hd4
      clear hd4
      go_wp2_with fail
      obtain ⟨hm, rfl⟩ := mk5_bad H.out h4.own.1
      refine (node_bad (by rw [← hm]; exact h4) 8 0 a b d).mono ?_
      rintro e w5 ⟨rfl, hb5⟩
      exact ⟨rfl, rfl, (((hb1.trans hb2).trans hb3).trans hb4).trans hb5⟩
    rw [if_neg h63] at h
    have d63 : ((c.toNat : Int) == 63) = false := by
      have : c.toNat ≠ 63 := fun e => h63 (UInt8.toNat_inj.1 e)
      simp
      omega
    clear h63
    by_cases h64 : c = 64
    · subst h64
      rw [if_pos rfl] at h
      have dq : (((64 : UInt8).toNat : Int) == 64) = true := by decide
      rcases andThen_bad h with hx | ⟨a, l1, o1, hv0, h⟩
      · have Hx := Lib.hid hx
        clear h hx 
        generalize ((64 : UInt8).toNat : Int) = x at *
        go_enter Tryd.func64, Tryd.ntmps64
        go_wp2_with (go_at_call 84; with_reducible refine CN.out.mono ?_; rintro e w1 ⟨rfl, h1, hb1⟩)
        refine (HVb.out w1 (p + 1) n v o _ h1 (hb0.trans (hb1)) (by omega) ho (by omega) (by rw [Hd.out]; exact Hx.out)).mono ?_
        rintro e w2 ⟨rfl, hb2⟩
        exact ⟨rfl, rfl, hb1.trans hb2⟩
      rcases andThen_bad h with hx | ⟨b, l2, o2, hv1, h⟩
      · have Hx := Lib.hid hx
        have Hv0 := Lib.hid hv0
        have hsh0 := pValue_short hv0
        clear h hx hv0
        generalize ((64 : UInt8).toNat : Int) = x at *
        go_enter Tryd.func64, Tryd.ntmps64
        go_wp2_with (go_at_call 84; with_reducible refine CN.out.mono ?_; rintro e w1 ⟨rfl, h1, hb1⟩)
        refine (HV.out w1 (p + 1) n v o a l1 o1 h1 (hb0.trans (hb1)) (by omega) ho (by rw [Hd.out]; exact Hv0.out)).mono ?_
        rintro e w2 ⟨rfl, p2, hp2, hd2, ho2, ⟨n2, v2, h2⟩, hb2⟩
        have hl2 : s.size - p2 ≤ l1.length := Nat.le_of_eq (drop_len hd2 hp2).symm
        have Hd2 := Lib.hid hd2
        clear hd2
        go_wp2_with fail
        refine (HBb.out w2 p2 n2 v2 o1 _ h2 (hb0.trans (hb1.trans hb2)) hp2 ho2 (by omega) (by rw [Hd2.out]; exact Hx.out)).mono ?_
        rintro e w3 ⟨rfl, hb3⟩
        exact ⟨rfl, rfl, (hb1.trans hb2).trans hb3⟩
      have H := Lib.hid h
      have Hv0 := Lib.hid hv0
      have Hv1 := Lib.hid hv1
      clear h hv0 hv1
      generalize ((64 : UInt8).toNat : Int) = x at *
      go_enter Tryd.func64, Tryd.ntmps64
      go_wp2_with (go_at_call 84; with_reducible refine CN.out.mono ?_; rintro e w1 ⟨rfl, h1, hb1⟩)
      refine (HV.out w1 (p + 1) n v o a l1 o1 h1 (hb0.trans (hb1)) (by omega) ho (by rw [Hd.out]; exact Hv0.out)).mono ?_
      rintro e w2 ⟨rfl, p2, hp2, hd2, ho2, ⟨n2, v2, h2⟩, hb2⟩
      have hl2 : s.size - p2 ≤ l1.length := Nat.le_of_eq (drop_len hd2 hp2).symm
      have Hd2 := Lib.hid hd2
      clear hd2
      go_wp2_with fail
      refine (HB.out w2 p2 n2 v2 o1 b l2 o2 h2 (hb0.trans (hb1.trans hb2)) hp2 ho2 (by rw [Hd2.out]; exact Hv1.out)).mono ?_
      rintro e w3 ⟨rfl, p3, hp3, hd3, ho3, ⟨n3, v3, h3⟩, hb3⟩
      have hl3 : s.size - p3 ≤ l2.length := Nat.le_of_eq (drop_len hd3 hp3).symm
      have Hd3 := Lib.hid hd3
      clear hd3
      go_wp2_with fail
      obtain ⟨hm, rfl⟩ := mk5_bad H.out h3.own.1
      refine (node_bad (by rw [← hm]; exact h3) 9 0 a b 0).mono ?_
      rintro e w4 ⟨rfl, hb4⟩
      exact ⟨rfl, rfl, ((hb1.trans hb2).trans hb3).trans hb4⟩
    rw [if_neg h64] at h
    have d64 : ((c.toNat : Int) == 64) = false := by
      have : c.toNat ≠ 64 := fun e => h64 (UInt8.toNat_inj.1 e)
      simp
      omega
    clear h64 HB HBb
    have hcb : (c.toNat : Int) ≤ 255 := by have := c.toNat_lt; omega
    have hc0 : (0 : Int) ≤ (c.toNat : Int) := by omega
    cases hn : nameOf c with
    | none =>
      rw [hn] at h
      dsimp only at h
      injection h with h
      subst h
      have hnn : ¬ (97 ≤ (c.toNat : Int) ∧ (c.toNat : Int) ≤ 102) := by
        unfold nameOf at hn
        split at hn
        · cases hn
        · omega
      have CM := Lib.hid (fun V => name_bad hnn hc0 hcb r V)
      clear hn hnn
      generalize (c.toNat : Int) = x at *
      go_enter Tryd.func64, Tryd.ntmps64
      go_wp2_with (go_at_call 84; with_reducible refine CN.out.mono ?_; rintro e w1 ⟨rfl, h1, hb1⟩)
      refine (CM.out _).mono ?_
      rintro e w2 ⟨rfl, hb2⟩
      exact ⟨rfl, rfl, hb1.trans hb2⟩
    | some k =>
      rw [hn] at h
      dsimp only at h
      have CM := Lib.hid (fun V => name_good hn r V)
      clear hn
      generalize (c.toNat : Int) = x at *
      rcases pWant_bad h with ⟨rfl, hne⟩ | ⟨l1, hd1, h⟩
      · have Hne := Lib.hid hne
        clear h hne
        go_enter Tryd.func64, Tryd.ntmps64
        go_wp2_with (first | (go_at_call 84; with_reducible refine CN.out.mono ?_; rintro e w1 ⟨rfl, h1, hb1⟩) | (go_at_call 87; with_reducible refine (CM.out _).mono ?_; rintro e w' ⟨rfl, rfl⟩))
        refine (wantBad_at (x := 61) (c := 61) (by decide) rfl h1 hs (by omega) (by rw [Hd.out]; exact Hne.out)).mono ?_
        rintro e w2 ⟨rfl, hb2⟩
        exact ⟨rfl, rfl, hb1.trans hb2⟩
      have Hd1 := Lib.hid hd1
      clear hd1
      rcases andThen_bad h with hx | ⟨a, l2, o2, hv, h⟩
      · have Hx := Lib.hid hx
        clear h hx
        go_enter Tryd.func64, Tryd.ntmps64
        go_wp2_with (first | (go_at_call 84; with_reducible refine CN.out.mono ?_; rintro e w1 ⟨rfl, h1, hb1⟩) | (go_at_call 87; with_reducible refine (CM.out _).mono ?_; rintro e w' ⟨rfl, rfl⟩))
        have hdA : s.data.toList.drop (p + 1) = 61 :: l1 := by rw [Hd.out]; exact Hd1.out
        refine (want_at (x := 61) rfl h1 hs (by omega) hdA).mono ?_
        rintro e w2 ⟨rfl, h2, hb2⟩
        have HdA := Lib.hid (drop_cons hdA).2.2
        have hltA := (drop_cons hdA).1
        clear hdA
        go_wp2_with fail
        refine (HVb.out w2 (p + 1 + 1) n v o _ h2 ((hb0.trans hb1).trans hb2) (by omega) ho (by omega) (by rw [HdA.out]; exact Hx.out)).mono ?_
        rintro e w3 ⟨rfl, hb3⟩
        exact ⟨rfl, rfl, (hb1.trans hb2).trans hb3⟩
      have Hv := Lib.hid hv
      clear hv
      rcases pWant_bad h with ⟨rfl, hne⟩ | ⟨l3, hd3, h⟩
      · have Hne := Lib.hid hne
        clear h hne
        go_enter Tryd.func64, Tryd.ntmps64
        go_wp2_with (first | (go_at_call 84; with_reducible refine CN.out.mono ?_; rintro e w1 ⟨rfl, h1, hb1⟩) | (go_at_call 87; with_reducible refine (CM.out _).mono ?_; rintro e w' ⟨rfl, rfl⟩))
        have hdA : s.data.toList.drop (p + 1) = 61 :: l1 := by rw [Hd.out]; exact Hd1.out
        refine (want_at (x := 61) rfl h1 hs (by omega) hdA).mono ?_
        rintro e w2 ⟨rfl, h2, hb2⟩
        have HdA := Lib.hid (drop_cons hdA).2.2
        have hltA := (drop_cons hdA).1
        clear hdA
        go_wp2_with fail
        refine (HV.out w2 (p + 1 + 1) n v o a l2 o2 h2 ((hb0.trans hb1).trans hb2) (by omega) ho (by rw [HdA.out]; exact Hv.out)).mono ?_
        rintro e w3 ⟨rfl, p3, hp3, hd3, ho3, ⟨n3, v3, h3⟩, hb3⟩
        have C3 := Lib.hid (wantBad_at (x := 59) (c := 59) (by decide) rfl h3 hs hp3 (by rw [hd3]; exact Hne.out))
        clear hd3
        go_wp2_with fail
        refine C3.out.mono ?_
        rintro e w4 ⟨rfl, hb4⟩
        exact ⟨rfl, rfl, ((hb1.trans hb2).trans hb3).trans hb4⟩
      · have H := Lib.hid h
        have Hd3 := Lib.hid hd3
        clear h hd3
        go_enter Tryd.func64, Tryd.ntmps64
        go_wp2_with (first | (go_at_call 84; with_reducible refine CN.out.mono ?_; rintro e w1 ⟨rfl, h1, hb1⟩) | (go_at_call 87; with_reducible refine (CM.out _).mono ?_; rintro e w' ⟨rfl, rfl⟩))
        have hdA : s.data.toList.drop (p + 1) = 61 :: l1 := by rw [Hd.out]; exact Hd1.out
        refine (want_at (x := 61) rfl h1 hs (by omega) hdA).mono ?_
        rintro e w2 ⟨rfl, h2, hb2⟩
        have HdA := Lib.hid (drop_cons hdA).2.2
        have hltA := (drop_cons hdA).1
        clear hdA
        go_wp2_with fail
        refine (HV.out w2 (p + 1 + 1) n v o a l2 o2 h2 ((hb0.trans hb1).trans hb2) (by omega) ho (by rw [HdA.out]; exact Hv.out)).mono ?_
        rintro e w3 ⟨rfl, p3, hp3, hd3, ho3, ⟨n3, v3, h3⟩, hb3⟩
        have hdB : s.data.toList.drop p3 = 59 :: l3 := by rw [hd3]; exact Hd3.out
        clear hd3
        have C3 := Lib.hid (want_at (x := 59) rfl h3 hs hp3 hdB)
        clear hdB
        go_wp2_with fail
        refine C3.out.mono ?_
        rintro e w4 ⟨rfl, h4, hb4⟩
        obtain ⟨hm, rfl⟩ := mk5_bad H.out h4.own.1
        have CNd := Lib.hid (node_bad (by rw [← hm]; exact h4) 6 k a 0 0)
        clear hm
        go_wp2_with fail
        refine CNd.out.mono ?_
        rintro e w5 ⟨rfl, hb5⟩
        exact ⟨rfl, rfl, (((hb1.trans hb2).trans hb3).trans hb4).trans hb5⟩
end
set_option maxHeartbeats 8000000 in
theorem list_bad {r : Nat} {s : ByteArray} (hs : s.size ≤ 300) {w0 : World} (hP : Pow10 r w0) (hN : ∀ V, Below r w0 V → NumErrs V) : ∀ f, ListBad r s w0 f := by
  intro f
  induction f with
  | zero => intro w p n v o e _ _ _ _ hf; omega
  | succ f ih =>
    intro w p n v o e hR hb0 hp ho hf h
    rw [pList] at h
    have CE := Lib.hid (fun b hb => ends_any hR hs (by omega) (b := b) hb)
    have hlt := hR.lt
    by_cases he : endsL (s.data.toList.drop p) = true
    · rw [if_pos he] at h
      have CE1 := Lib.hid (CE.out true he)
      have H := Lib.hid h
      clear CE he h ih
      go_enter Tryd.func35, Tryd.ntmps35
      go_wp2_with (go_at_call 62; with_reducible refine CE1.out.mono ?_; rintro e w1 ⟨rfl, h1, hb1⟩)
      obtain ⟨hm, rfl⟩ := mk5_bad H.out h1.own.1
      refine (node_bad (by rw [← hm]; exact h1) 5 0 0 0 0).mono ?_
      rintro e w2 ⟨rfl, hb2⟩
      exact ⟨rfl, rfl, (hb1.mono (Nat.le_of_lt hlt)).trans hb2⟩
    rw [if_neg he] at h
    have CE1 := Lib.hid (CE.out false (by simpa using he))
    have hne : p < s.size := by
      rcases Nat.lt_or_ge p s.size with h1 | h1
      · exact h1
      · rw [List.drop_eq_nil_of_le (by simpa using h1)] at he; exact absurd rfl he
    rcases andThen_bad h with h1 | ⟨a, l1, o1, h1, h⟩
    · have HO := Lib.hid (fun V (hV : RdAt V r s p n v o) (hb : Below r w0 V) => one_bad hs hP hN (list_good hs hP f) ih hV hb hp ho hf h1)
      clear CE he h h1 ih
      go_enter Tryd.func35, Tryd.ntmps35
      go_wp2_with (go_at_call 62; with_reducible refine CE1.out.mono ?_; rintro e w1 ⟨rfl, h1, hb1⟩)
      have hb1' := hb1.mono (Nat.le_of_lt hlt)
      refine (HO.out _ h1 (hb0.trans hb1')).mono ?_
      rintro e w2 ⟨rfl, hb2⟩
      exact ⟨rfl, rfl, hb1'.trans hb2⟩
    have hsh := pOne_short (fun h => pList_short h) h1
    have hle : (s.data.toList.drop p).length = s.size - p := drop_len rfl hp
    have hsh2 : l1.length < s.size - p := by omega
    by_cases he2 : endsL l1 = true
    · rw [if_pos he2] at h; cases h
    rw [if_neg he2] at h
    have HO := Lib.hid (fun V (hV : RdAt V r s p n v o) (hb : Below r w0 V) => one_good hs hP (list_good hs hP f) hV hb hp ho h1)
    have He2 := Lib.hid (show endsL l1 = false by simpa using he2)
    have Hih := Lib.hid ih
    clear CE he he2 h1 ih hsh hle
    rcases andThen_bad h with hx | ⟨b, l2, o2, hv, h⟩
    · have Hx := Lib.hid hx
      clear h hx
      go_enter Tryd.func35, Tryd.ntmps35
      go_wp2_with (go_at_call 62; with_reducible refine CE1.out.mono ?_; rintro e w1 ⟨rfl, h1, hb1⟩)
      have hb1' := hb1.mono (Nat.le_of_lt hlt)
      refine (HO.out _ h1 (hb0.trans hb1')).mono ?_
      rintro e w2 ⟨rfl, p2, hp2, hd2, ho2, ⟨n2, v2, h2⟩, hb2⟩
      have hl2 : s.size - p2 ≤ l1.length := Nat.le_of_eq (drop_len hd2 hp2).symm
      have CE3 := Lib.hid (ends_any h2 hs (by omega) (b := false) (by rw [hd2]; exact He2.out))
      have Hd2 := Lib.hid hd2
      clear hd2 CE1 HO
      go_wp2_with (go_at_call 62; with_reducible refine CE3.out.mono ?_; rintro e w3 ⟨rfl, h3, hb3⟩)
      have hb3' := hb3.mono (Nat.le_of_lt h2.lt)
      refine (Hih.out w3 p2 n2 v2 o1 _ h3 (((hb0.trans hb1').trans hb2).trans hb3') hp2 ho2 (by omega) (by rw [Hd2.out]; exact Hx.out)).mono ?_
      rintro e w4 ⟨rfl, hb4⟩
      exact ⟨rfl, rfl, ((hb1'.trans hb2).trans hb3').trans hb4⟩
    · have H := Lib.hid h
      have Hv := Lib.hid hv
      have HLG := Lib.hid (list_good hs hP f)
      clear h hv
      go_enter Tryd.func35, Tryd.ntmps35
      go_wp2_with (go_at_call 62; with_reducible refine CE1.out.mono ?_; rintro e w1 ⟨rfl, h1, hb1⟩)
      have hb1' := hb1.mono (Nat.le_of_lt hlt)
      refine (HO.out _ h1 (hb0.trans hb1')).mono ?_
      rintro e w2 ⟨rfl, p2, hp2, hd2, ho2, ⟨n2, v2, h2⟩, hb2⟩
      have CE3 := Lib.hid (ends_any h2 hs (by omega) (b := false) (by rw [hd2]; exact He2.out))
      have Hd2 := Lib.hid hd2
      clear hd2 CE1 HO
      go_wp2_with (go_at_call 62; with_reducible refine CE3.out.mono ?_; rintro e w3 ⟨rfl, h3, hb3⟩)
      have hb3' := hb3.mono (Nat.le_of_lt h2.lt)
      refine (HLG.out w3 p2 n2 v2 o1 b l2 o2 h3 (((hb0.trans hb1').trans hb2).trans hb3') hp2 ho2 (by rw [Hd2.out]; exact Hv.out)).mono ?_
      rintro e w4 ⟨rfl, p4, hp4, hd4, ho4, ⟨n4, v4, h4⟩, hb4⟩
      obtain ⟨hm, rfl⟩ := mk5_bad H.out h4.own.1
      have CNd := Lib.hid (node_bad (by rw [← hm]; exact h4) 7 0 a b 0)
      clear hm hd4
      go_wp2_with fail
      refine CNd.out.mono ?_
      rintro e w5 ⟨rfl, hb5⟩
      exact ⟨rfl, rfl, (((hb1'.trans hb2).trans hb3').trans hb4).trans hb5⟩
end Go.Proofs.YtdgncngkalgknaaDoor
