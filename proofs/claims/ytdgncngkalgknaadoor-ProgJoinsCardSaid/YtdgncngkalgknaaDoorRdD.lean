/-
  Contracts: the reader's block, one and list, where the text is right.
-/
import Derived.Test.YtdgncngkalgknaaDoorRdC
namespace Go.Proofs.YtdgncngkalgknaaDoor
open Go.RowKit
set_option maxRecDepth 100000
set_option linter.unusedVariables false

theorem pWant_good {c : UInt8} {l : List UInt8} {o : List Int} {F : List UInt8 → List Int → PR} {i : Nat} {l' : List UInt8} {o' : List Int} (h : pWant c l o F = .good i l' o') : ∃ r, l = c :: r ∧ F r o = .good i l' o' := by
  unfold pWant at h
  cases l with
  | nil => cases h
  | cons x r =>
    dsimp only at h
    split at h
    · rename_i e; subst e; exact ⟨r, rfl, h⟩
    · cases h
theorem andThen_good {a : PR} {F : Nat → List UInt8 → List Int → PR} {i : Nat} {l' : List UInt8} {o' : List Int} (h : a.andThen F = .good i l' o') : ∃ i1 l1 o1, a = .good i1 l1 o1 ∧ F i1 l1 o1 = .good i l' o' := by
  cases a with
  | bad e => cases h
  | good i1 l1 o1 => exact ⟨i1, l1, o1, rfl, h⟩
/-- What list does with fuel f, where the text is right. -/
def ListGood (r : Nat) (s : ByteArray) (w0 : World) (f : Nat) : Prop := ∀ (w : World) (p n : Nat) (v : Value) (o : List Int) (i : Nat) (l' : List UInt8) (o' : List Int), RdAt w r s p n v o → Below r w0 w → p ≤ s.size → o.length ≤ 400 → pList f (s.data.toList.drop p) o = .good i l' o' →
    Calls Tryd.prog 35 #[.pointer (some ⟨r, 0, none⟩)] w (RdGood r s i l' o' w)
section
variable {w w0 : World} {r : Nat} {s : ByteArray} {p n f : Nat} {v : Value} {o : List Int}
theorem want_at {c : UInt8} {x : Int} {l : List UInt8} (hx : (c.toNat : Int) = x) (h : RdAt w r s p n v o) (hs : s.size ≤ 300) (hp : p ≤ s.size) (hd : s.data.toList.drop p = c :: l) :
    Calls Tryd.prog 88 #[.pointer (some ⟨r, 0, none⟩), .int .u8 x] w fun e w' => e = .returned (.tuple #[]) ∧ RdAt w' r s (p + 1) n v o ∧ Below r w w' := by
  subst hx
  exact want_good (l := l) h hs (by omega) (drop_cons hd).2.1

set_option maxHeartbeats 4000000 in
theorem block_good {i : Nat} {l' : List UInt8} {o' : List Int} (hs : s.size ≤ 300) (HL : ListGood r s w0 f) (hR : RdAt w r s p n v o) (hb0 : Below r w0 w) (hp : p ≤ s.size) (ho : o.length ≤ 400) (h : pBlock (pList f) (s.data.toList.drop p) o = .good i l' o') :
    Calls Tryd.prog 86 #[.pointer (some ⟨r, 0, none⟩)] w (RdGood r s i l' o' w) := by
  obtain ⟨l1, hd, h⟩ := pWant_good h
  obtain ⟨i1, l2, o1, hl, h⟩ := andThen_good h
  obtain ⟨l3, hd2, h⟩ := pWant_good h
  injection h with e1 e2 e3
  subst e1; subst e2; subst e3
  have C1 := Lib.hid (want_at (x := 123) rfl hR hs hp hd)
  have Hd := Lib.hid (drop_cons hd).2.2
  have hlt := (drop_cons hd).1
  have Hl := Lib.hid hl
  have Hd2 := Lib.hid hd2
  have HLh := Lib.hid HL
  clear hd hl hd2 hR HL
  go_enter Tryd.func86, Tryd.ntmps86
  go_wp2_with fail
  refine C1.out.mono ?_
  rintro e w1 ⟨rfl, h1, hb1⟩
  go_wp2_with fail
  refine (HLh.out w1 (p + 1) n v o i1 l2 o1 h1 (hb0.trans hb1) (by omega) ho (by rw [Hd.out]; exact Hl.out)).mono ?_
  rintro e w2 ⟨rfl, p2, hp2, hd2, ho2, ⟨n2, v2, h2⟩, hb2⟩
  have hd3 : s.data.toList.drop p2 = 125 :: l3 := by rw [hd2]; exact Hd2.out
  have C2 := Lib.hid (want_at (x := 125) rfl h2 hs hp2 hd3)
  have Hd3 := Lib.hid (drop_cons hd3).2.2
  have hlt2 := (drop_cons hd3).1
  clear hd2 hd3 C1
  go_wp2_with fail
  refine C2.out.mono ?_
  rintro e w3 ⟨rfl, h3, hb3⟩
  go_wp2_with fail
  go_ret
  exact ⟨rfl, p2 + 1, by omega, Hd3.out, ho2, ⟨_, _, h3⟩, (hb1.trans hb2).trans hb3⟩
set_option maxHeartbeats 8000000 in
theorem one_good {i : Nat} {l' : List UInt8} {o' : List Int} (hs : s.size ≤ 300) (hP : Pow10 r w0) (HL : ListGood r s w0 f) (hR : RdAt w r s p n v o) (hb0 : Below r w0 w) (hp : p ≤ s.size) (ho : o.length ≤ 400) (h : pOne (pValue f) (pList f) (s.data.toList.drop p) o = .good i l' o') :
    Calls Tryd.prog 64 #[.pointer (some ⟨r, 0, none⟩)] w (RdGood r s i l' o' w) := by
  have HV := Lib.hid (value_good hs hP f)
  have HB := Lib.hid (fun (w : World) (p n : Nat) (v : Value) (o : List Int) (i : Nat) (l' : List UInt8) (o' : List Int) (hR : RdAt w r s p n v o) (hb : Below r w0 w) (hp : p ≤ s.size) (ho : o.length ≤ 400) (h : pBlock (pList f) (s.data.toList.drop p) o = .good i l' o') => block_good hs HL hR hb hp ho h)
  cases hd : s.data.toList.drop p with
  | nil => rw [hd] at h; cases h
  | cons c l =>
    obtain ⟨hlt, hpk, hdl⟩ := drop_cons hd
    rw [hd] at h
    unfold pOne at h
    dsimp only at h
    have CN := next_any hR hs (by omega)
    rw [hpk] at CN
    have CN := Lib.hid CN
    have Hd := Lib.hid hdl
    clear hd hpk hdl HL hR hP
    by_cases h63 : c = 63
    · subst h63
      rw [if_pos rfl] at h
      obtain ⟨a, l1, o1, hv, h⟩ := andThen_good h
      obtain ⟨b, l2, o2, hb, h⟩ := andThen_good h
      obtain ⟨d, l3, o3, hc, h⟩ := andThen_good h
      have Hv := Lib.hid hv
      have Hb := Lib.hid hb
      have Hc := Lib.hid hc
      have H := Lib.hid h
      have dq : (((63 : UInt8).toNat : Int) == 63) = true := by decide
      clear hv hb hc h
      generalize ((63 : UInt8).toNat : Int) = x at *
      go_enter Tryd.func64, Tryd.ntmps64
      go_wp2_with (go_at_call 84; with_reducible refine CN.out.mono ?_; rintro e w1 ⟨rfl, h1, hb1⟩)
      refine (HV.out w1 (p + 1) n v o a l1 o1 h1 (hb0.trans hb1) (by omega) ho (by rw [Hd.out]; exact Hv.out)).mono ?_
      rintro e w2 ⟨rfl, p2, hp2, hd2, ho2, ⟨n2, v2, h2⟩, hb2⟩
      have Hd2 := Lib.hid hd2
      clear hd2
      go_wp2_with fail
      refine (HB.out w2 p2 n2 v2 o1 b l2 o2 h2 ((hb0.trans hb1).trans hb2) hp2 ho2 (by rw [Hd2.out]; exact Hb.out)).mono ?_
      rintro e w3 ⟨rfl, p3, hp3, hd3, ho3, ⟨n3, v3, h3⟩, hb3⟩
      have Hd3 := Lib.hid hd3
      clear hd3
      go_wp2_with fail
      refine (HB.out w3 p3 n3 v3 o2 d l3 o3 h3 (((hb0.trans hb1).trans hb2).trans hb3) hp3 ho3 (by rw [Hd3.out]; exact Hc.out)).mono ?_
      rintro e w4 ⟨rfl, p4, hp4, hd4, ho4, ⟨n4, v4, h4⟩, hb4⟩
      have Hd4 := Lib.hid hd4
      clear hd4
      obtain ⟨hm, rfl, rfl, rfl, hlen⟩ := mk5_good H.out h4.own.1 ho4
      have Hlen := Lib.hid hlen
      clear hlen
      go_wp2_with fail
      refine (node_good h4 hm 8 0 a b d).mono ?_
      rintro e w5 ⟨rfl, hr5, hb5⟩
      go_wp2_with fail
      go_ret
      exact ⟨rfl, p4, hp4, Hd4.out, Hlen.out, hr5, (((hb1.trans hb2).trans hb3).trans hb4).trans hb5⟩
    rw [if_neg h63] at h
    have d63 : ((c.toNat : Int) == 63) = false := by
      have : c.toNat ≠ 63 := fun e => h63 (UInt8.toNat_inj.1 e)
      simp
      omega
    by_cases h64 : c = 64
    · subst h64
      rw [if_pos rfl] at h
      obtain ⟨a, l1, o1, hv, h⟩ := andThen_good h
      obtain ⟨b, l2, o2, hb, h⟩ := andThen_good h
      have Hv := Lib.hid hv
      have Hb := Lib.hid hb
      have H := Lib.hid h
      have dq : (((64 : UInt8).toNat : Int) == 64) = true := by decide
      clear hv hb h h63
      generalize ((64 : UInt8).toNat : Int) = x at *
      go_enter Tryd.func64, Tryd.ntmps64
      go_wp2_with (go_at_call 84; with_reducible refine CN.out.mono ?_; rintro e w1 ⟨rfl, h1, hb1⟩)
      refine (HV.out w1 (p + 1) n v o a l1 o1 h1 (hb0.trans hb1) (by omega) ho (by rw [Hd.out]; exact Hv.out)).mono ?_
      rintro e w2 ⟨rfl, p2, hp2, hd2, ho2, ⟨n2, v2, h2⟩, hb2⟩
      have Hd2 := Lib.hid hd2
      clear hd2
      go_wp2_with fail
      refine (HB.out w2 p2 n2 v2 o1 b l2 o2 h2 ((hb0.trans hb1).trans hb2) hp2 ho2 (by rw [Hd2.out]; exact Hb.out)).mono ?_
      rintro e w3 ⟨rfl, p3, hp3, hd3, ho3, ⟨n3, v3, h3⟩, hb3⟩
      have Hd3 := Lib.hid hd3
      clear hd3
      obtain ⟨hm, rfl, rfl, rfl, hlen⟩ := mk5_good H.out h3.own.1 ho3
      have Hlen := Lib.hid hlen
      clear hlen
      go_wp2_with fail
      refine (node_good h3 hm 9 0 a b 0).mono ?_
      rintro e w4 ⟨rfl, hr4, hb4⟩
      go_wp2_with fail
      go_ret
      exact ⟨rfl, p3, hp3, Hd3.out, Hlen.out, hr4, ((hb1.trans hb2).trans hb3).trans hb4⟩
    rw [if_neg h64] at h
    have d64 : ((c.toNat : Int) == 64) = false := by
      have : c.toNat ≠ 64 := fun e => h64 (UInt8.toNat_inj.1 e)
      simp
      omega
    cases hn : nameOf c with
    | none => rw [hn] at h; cases h
    | some k =>
      rw [hn] at h
      dsimp only at h
      obtain ⟨l1, hd1, h⟩ := pWant_good h
      obtain ⟨a, l2, o2, hv, h⟩ := andThen_good h
      obtain ⟨l3, hd3, h⟩ := pWant_good h
      have CM := Lib.hid (fun V => name_good hn r V)
      have Hv := Lib.hid hv
      have H := Lib.hid h
      have Hd1 := Lib.hid hd1
      have Hd3 := Lib.hid hd3
      clear hv h hd1 hd3 hn h63 h64 HB
      generalize (c.toNat : Int) = x at *
      go_enter Tryd.func64, Tryd.ntmps64
      go_wp2_with (first | (go_at_call 84; with_reducible refine CN.out.mono ?_; rintro e w1 ⟨rfl, h1, hb1⟩) | (go_at_call 87; with_reducible refine (CM.out _).mono ?_; rintro e w' ⟨rfl, rfl⟩))
      have hdA : s.data.toList.drop (p + 1) = 61 :: l1 := by rw [Hd.out]; exact Hd1.out
      refine (want_at (x := 61) rfl h1 hs (by omega) hdA).mono ?_
      rintro e w2 ⟨rfl, h2, hb2⟩
      have HdA := Lib.hid (drop_cons hdA).2.2
      have hltA := (drop_cons hdA).1
      clear hdA
      go_wp2_with fail
      refine (HV.out w2 (p + 1 + 1) n v o a l2 o2 h2 ((hb0.trans hb1).trans hb2) (by omega) ho (by rw [HdA.out]; exact Hv.out)).mono ?_
      rintro e w3 ⟨rfl, p3, hp3, hd3, ho3, ⟨n3, v3, h3⟩, hb3⟩
      have hdB : s.data.toList.drop p3 = 59 :: l3 := by rw [hd3]; exact Hd3.out
      clear hd3
      have C3 := Lib.hid (want_at (x := 59) rfl h3 hs hp3 hdB)
      have HdB := Lib.hid (drop_cons hdB).2.2
      have hltB := (drop_cons hdB).1
      clear hdB
      go_wp2_with fail
      refine C3.out.mono ?_
      rintro e w4 ⟨rfl, h4, hb4⟩
      obtain ⟨hm, rfl, rfl, rfl, hlen⟩ := mk5_good H.out h4.own.1 ho3
      have Hlen := Lib.hid hlen
      clear hlen
      go_wp2_with fail
      refine (node_good h4 hm 6 k a 0 0).mono ?_
      rintro e w5 ⟨rfl, hr5, hb5⟩
      go_wp2_with fail
      go_ret
      exact ⟨rfl, p3 + 1, by omega, HdB.out, Hlen.out, hr5, (((hb1.trans hb2).trans hb3).trans hb4).trans hb5⟩
end
set_option maxHeartbeats 8000000 in
theorem list_good {r : Nat} {s : ByteArray} (hs : s.size ≤ 300) {w0 : World} (hP : Pow10 r w0) : ∀ f, ListGood r s w0 f := by
  intro f
  induction f with
  | zero => intro w p n v o i l' o' _ _ _ _ h; cases h
  | succ f ih =>
    intro w p n v o i l' o' hR hb0 hp ho h
    rw [pList] at h
    have CE := Lib.hid (fun b hb => ends_any hR hs (by omega) (b := b) hb)
    by_cases he : endsL (s.data.toList.drop p) = true
    · rw [if_pos he] at h
      have CE1 := Lib.hid (CE.out true he)
      have H := Lib.hid h
      clear CE he h ih
      go_enter Tryd.func35, Tryd.ntmps35
      go_wp2_with (go_at_call 62; with_reducible refine CE1.out.mono ?_; rintro e w1 ⟨rfl, h1, hb1⟩)
      obtain ⟨hm, rfl, rfl, rfl, hlen⟩ := mk5_good H.out h1.own.1 ho
      have Hlen := Lib.hid hlen
      clear hlen
      refine (node_good h1 hm 5 0 0 0 0).mono ?_
      rintro e w2 ⟨rfl, hr2, hb2⟩
      go_wp2_with fail
      go_ret
      exact ⟨rfl, p, hp, rfl, Hlen.out, hr2, (hb1.mono (Nat.le_of_lt hR.lt)).trans hb2⟩
    · rw [if_neg he] at h
      obtain ⟨a, l1, o1, h1, h⟩ := andThen_good h
      have CE1 := Lib.hid (CE.out false (by simpa using he))
      have HO := Lib.hid (fun V (hV : RdAt V r s p n v o) (hb : Below r w0 V) => one_good hs hP ih hV hb hp ho h1)
      have Hih := Lib.hid ih
      have H := Lib.hid h
      have hlt := hR.lt
      clear CE he h h1 ih
      go_enter Tryd.func35, Tryd.ntmps35
      go_wp2_with (go_at_call 62; with_reducible refine CE1.out.mono ?_; rintro e w1 ⟨rfl, h1, hb1⟩)
      have hb1' := hb1.mono (Nat.le_of_lt hlt)
      refine (HO.out _ h1 (hb0.trans hb1')).mono ?_
      rintro e w2 ⟨rfl, p2, hp2, hd2, ho2, ⟨n2, v2, h2⟩, hb2⟩
      have Hd2 := Lib.hid hd2
      have CE2 := Lib.hid (fun b hb => ends_any h2 hs (by omega) (b := b) hb)
      have h' := H.out
      clear hd2 CE1 HO
      by_cases he2 : endsL l1 = true
      · rw [if_pos he2] at h'
        injection h' with e1 e2 e3
        subst e1; subst e2; subst e3
        have CE3 := Lib.hid (CE2.out true (by rw [Hd2.out]; exact he2))
        clear CE2 he2
        go_wp2_with (go_at_call 62; with_reducible refine CE3.out.mono ?_; rintro e w3 ⟨rfl, h3, hb3⟩)
        go_ret
        exact ⟨rfl, p2, hp2, Hd2.out, ho2, ⟨_, _, h3⟩, (hb1'.trans hb2).trans (hb3.mono (Nat.le_of_lt h2.lt))⟩
      · rw [if_neg he2] at h'
        obtain ⟨b, l2, o2, hv, h'⟩ := andThen_good h'
        have CE3 := Lib.hid (CE2.out false (by rw [Hd2.out]; simpa using he2))
        have Hv := Lib.hid hv
        have H2 := Lib.hid h'
        clear CE2 he2 hv h' H
        go_wp2_with (go_at_call 62; with_reducible refine CE3.out.mono ?_; rintro e w3 ⟨rfl, h3, hb3⟩)
        have hb3' := hb3.mono (Nat.le_of_lt h2.lt)
        refine (Hih.out w3 p2 n2 v2 o1 b l2 o2 h3 (((hb0.trans hb1').trans hb2).trans hb3') hp2 ho2 (by rw [Hd2.out]; exact Hv.out)).mono ?_
        rintro e w4 ⟨rfl, p4, hp4, hd4, ho4, ⟨n4, v4, h4⟩, hb4⟩
        have Hd4 := Lib.hid hd4
        clear hd4
        obtain ⟨hm, rfl, rfl, rfl, hlen⟩ := mk5_good H2.out h4.own.1 ho4
        have Hlen := Lib.hid hlen
        clear hlen
        go_wp2_with fail
        refine (node_good h4 hm 7 0 a b 0).mono ?_
        rintro e w5 ⟨rfl, hr5, hb5⟩
        go_wp2_with fail
        go_ret
        exact ⟨rfl, p4, hp4, Hd4.out, Hlen.out, hr5, (((hb1'.trans hb2).trans hb3').trans hb4).trans hb5⟩
end Go.Proofs.YtdgncngkalgknaaDoor
