/-
  The document's reader of programs: readOne.
-/
import Derived.Test.YtfpghfmdkbdojaaGreatDoorPsD
import Derived.Test.YtfpghfmdkbdojaaGreatDoorRdM
namespace Go.Proofs.YtfpghfmdkbdojaaGreatDoor
open Go.RowKit
set_option maxRecDepth 100000
set_option linter.unusedVariables false

theorem psR_short {s : ByteArray} {V : List UInt8 → List Int → PR} (hV : ∀ {l : List UInt8} {o : List Int} {i : Nat} {l' : List UInt8} {o' : List Int}, V l o = .good i l' o' → l'.length ≤ l.length) {p e p2 e2 : Nat} {o o2 : List Int} {i2 : Int} (hp : p ≤ s.size) (hp2 : p2 ≤ s.size) (h : PsR s (at0 e (V (s.data.toList.drop p) o)) p2 e2 o2 i2) (h2 : e2 = 0) : e = 0 ∧ p ≤ p2 := by
  by_cases he : e = 0
  · have h3 := psR_goods h he
    cases hv : V (s.data.toList.drop p) o with
    | bad k => rw [hv] at h3; have := psR_bad h3; omega
    | good j l o' =>
      rw [hv] at h3
      obtain ⟨_, _, hl, _⟩ := psR_good h3
      have := hV hv
      rw [← hl, List.length_drop, List.length_drop] at this
      have hsz : s.data.toList.length = s.size := by simp
      exact ⟨he, by omega⟩
  · have := psR_bads h he
    omega
theorem psR_mk5 {s : ByteArray} {p e n e' n' : Nat} {o o' : List Int} {k0 k1 k2 k3 k4 : Int} (hl : o.length = n * 5) (h : e = 0 → (e' = 4 ∧ o.length = 400) ∨ (e' = 0 ∧ o' = o ++ [k0, k1, k2, k3, k4] ∧ n' = n + 1 ∧ o.length ≠ 400)) (he : e = 0) : PsR s (mk5 (s.data.toList.drop p) o k0 k1 k2 k3 k4) p e' o' ((n' : Int) - 1) := by
  rcases h he with ⟨h1, h2⟩ | ⟨h1, h2, h3, h4⟩
  · unfold mk5
    rw [if_pos h2]
    exact ⟨h1, by decide⟩
  · unfold mk5
    rw [if_neg h4]
    exact ⟨h1, by omega, rfl, h2⟩
theorem pOne_if {s : ByteArray} {p p1 f : Nat} {o : List Int} (hd : ∃ l, s.data.toList.drop p = 63 :: l) (hp : p + 1 = p1) : pOne (pValue f) (pList f) (s.data.toList.drop p) o = (pValue f (s.data.toList.drop p1) o).andThen fun a l1 o1 => (pBlock (pList f) l1 o1).andThen fun b l2 o2 => (pBlock (pList f) l2 o2).andThen fun d l3 o3 => mk5 l3 o3 8 0 a b d := by
  obtain ⟨l, hd⟩ := hd
  subst hp
  rw [drop_next hd]
  rfl
theorem pOne_loop {s : ByteArray} {p p1 f : Nat} {o : List Int} (hd : ∃ l, s.data.toList.drop p = 64 :: l) (hp : p + 1 = p1) : pOne (pValue f) (pList f) (s.data.toList.drop p) o = (pValue f (s.data.toList.drop p1) o).andThen fun a l1 o1 => (pBlock (pList f) l1 o1).andThen fun b l2 o2 => mk5 l2 o2 9 0 a b 0 := by
  obtain ⟨l, hd⟩ := hd
  subst hp
  rw [drop_next hd]
  rfl
theorem nextName_some {s : ByteArray} {p e m : Nat} (h : nextName s p e = some m) : e = 0 ∧ p < s.size ∧ ∃ c, s.data.toList.drop p = c :: s.data.toList.drop (p + 1) ∧ nameOf c = some m := by
  unfold nextName at h
  split at h
  · rename_i he
    cases hd : s.data.toList.drop p with
    | nil => rw [hd] at h; cases h
    | cons c l =>
      have hl := congrArg List.length hd
      rw [List.length_drop, List.length_cons] at hl
      have hsz : s.data.toList.length = s.size := by simp
      rw [hd] at h
      exact ⟨he, by omega, c, by rw [← hd]; exact drop_next hd, h⟩
  · cases h
theorem next_not {s : ByteArray} {p e : Nat} {c : UInt8} (h : isNext s p e c = false) (he : e = 0) (l : List UInt8) : s.data.toList.drop p ≠ c :: l := fun hd => of_decide_eq_false h ⟨he, by rw [hd]; rfl⟩
theorem pOne_name {s : ByteArray} {p e m f : Nat} (h63 : isNext s p e 63 = false) (h64 : isNext s p e 64 = false) (h : nextName s p e = some m) : e = 0 ∧ p < s.size ∧ ∀ {o : List Int}, pOne (pValue f) (pList f) (s.data.toList.drop p) o = pWant 61 (s.data.toList.drop (p + 1)) o fun r1 o1 => (pValue f r1 o1).andThen fun a l1 o2 => pWant 59 l1 o2 fun l2 o3 => mk5 l2 o3 6 m a 0 0 := by
  obtain ⟨he, hlt, c, hd, hc⟩ := nextName_some h
  refine ⟨he, hlt, fun {o} => ?_⟩
  have n63 := next_not h63 he (s.data.toList.drop (p + 1))
  have n64 := next_not h64 he (s.data.toList.drop (p + 1))
  rw [hd] at n63 n64 ⊢
  show (if c = 63 then _ else if c = 64 then _ else match nameOf c with | some n => _ | none => _) = _
  rw [if_neg (fun e => n63 (by rw [e])), if_neg (fun e => n64 (by rw [e])), hc]
theorem pOne_none {s : ByteArray} {p e f : Nat} {o : List Int} (h63 : isNext s p e 63 = false) (h64 : isNext s p e 64 = false) (h : nextName s p e = none) (he : e = 0) : pOne (pValue f) (pList f) (s.data.toList.drop p) o = .bad 2 := by
  cases hd : s.data.toList.drop p with
  | nil => rfl
  | cons c l =>
    have n63 := next_not h63 he l
    have n64 := next_not h64 he l
    rw [hd] at n63 n64
    have hc : nameOf c = none := by
      unfold nextName at h
      rw [if_pos he, hd] at h
      exact h
    show (if c = 63 then _ else if c = 64 then _ else match nameOf c with | some n => _ | none => _) = _
    rw [if_neg (fun e => n63 (by rw [e])), if_neg (fun e => n64 (by rw [e])), hc]
/- printed by tools/psgen.py -/
set_option maxHeartbeats 16000000 in
theorem ROne_any {s : ByteArray} {f : Nat} (hs : s.size ≤ 300) (HV : PsC s 47 (pValue f) f) (HB : PsC s 48 (pBlock (pList f)) (f + 1)) : PsC s 35 (pOne (pValue f) (pList f)) (f + 1) := by
  intro w p e n c A o hp ho hn hfu
  have hlen := ho.1
  cases h63 : isNext s p e 63 with
  | true =>
    have Hx := Lib.hid (isNext_yes h63)
    obtain ⟨bt, br, hb0⟩ := two_boxes w (svA s p A n c e) svZ 57
    replace ho := ho.below0 hb0
    have hF := PsF.of_below hb0 (.slice A n c)
    have lt_ : w.heap.size ≤ w.heap.size := Nat.le_refl _
    have lr_ : w.heap.size ≤ w.heap.size + 1 := Nat.le_succ _
    have hs0 := hb0.size
    clear hb0
    go_enter Tryz.func35, Tryz.ntmps35
    go_wp2_with fail
    generalize ((w.alloc (.cells #[.string s, .int .i64 (p : Nat), .slice A n c, .int .i64 (e : Nat)] 57)).alloc (.cells #[.string ⟨#[]⟩, .int .i64 0, .slice none 0 0, .int .i64 0] 57)) = w0 at *
    have CS := Lib.hid (RSign_any (s := s) (p := p) (e := e) (A := A) (n := n) (cc := c) (w := w0) (c := 63) (x := 63) rfl hs hp)
    rw [h63, if_pos rfl] at CS
    obtain ⟨p1, hp1⟩ : ∃ x, p + 1 = x := ⟨_, rfl⟩
    rw [hp1] at CS
    have Hp1 := Lib.hid hp1
    clear hp1
    with_reducible refine CS.out.mono ?_
    rintro r w1 ⟨rfl, hb1⟩
    clear CS
    replace bt := bt.all hb1
    replace br := br.all hb1
    replace ho := ho.below0 hb1
    replace hF := hF.trans (PsF.of_below hb1 _)
    clear hb1
    go_wp2_with fail
    have bu := BoxN.new w1 57 (svA s p1 A n c e)
    have dtu := bt.lt
    replace bt := bt.alloc (.cells (svA s p1 A n c e) 57)
    have dru := br.lt
    replace br := br.alloc (.cells (svA s p1 A n c e) 57)
    replace ho := ho.below0 ((Below.refl _ _).alloc (Nat.le_refl _) (.cells (svA s p1 A n c e) 57))
    have lu_ : w.heap.size ≤ w1.heap.size := hF.keep.size
    replace hF := hF.alloc (.cells (svA s p1 A n c e) 57)
    generalize (w1.alloc (.cells #[.string s, .int .i64 (p1 : Nat), .slice A n c, .int .i64 (e : Nat)] 57)) = w1a at *
    generalize w1.heap.size = yu at *
    have Hx1 := Lib.hid Hx.out
    have hp1 : p1 ≤ s.size := by have := Hx.out.2.1; have := Hp1.out; omega
    replace hp := hp1
    clear hp1
    have hfu1 : e = 0 → s.size - p1 < f := fun h => by have := Hp1.out; have := Hx.out.2.1; have := hfu h; omega
    have CR := Lib.hid (HV w1a p1 e n c A _ hp ho hn hfu1)
    with_reducible refine CR.out.mono ?_
    rintro r w2 ⟨p2, A2, n2, c2, e2, i2, o2, rfl, hp2, ho2, hn2, hf2, hr2⟩
    clear CR
    have hq2 := hp
    replace bt := hf2.st ho bt
    replace br := hf2.st ho br
    replace bu := hf2.st ho bu
    replace hF := hF.trans hf2
    clear ho hn hp hf2
    have hp := hp2
    have ho := ho2
    have hn := hn2
    clear hp2 ho2 hn2
    go_wp2_with fail
    have bv := BoxN.new w2 57 (svA s p2 A2 n2 c2 e2)
    have dtv := bt.lt
    replace bt := bt.alloc (.cells (svA s p2 A2 n2 c2 e2) 57)
    have drv := br.lt
    replace br := br.alloc (.cells (svA s p2 A2 n2 c2 e2) 57)
    have duv := bu.lt
    replace bu := bu.alloc (.cells (svA s p2 A2 n2 c2 e2) 57)
    replace ho := ho.below0 ((Below.refl _ _).alloc (Nat.le_refl _) (.cells (svA s p2 A2 n2 c2 e2) 57))
    have lv_ : w.heap.size ≤ w2.heap.size := hF.keep.size
    replace hF := hF.alloc (.cells (svA s p2 A2 n2 c2 e2) 57)
    generalize (w2.alloc (.cells #[.string s, .int .i64 (p2 : Nat), .slice A2 n2 c2, .int .i64 (e2 : Nat)] 57)) = w2a at *
    generalize w2.heap.size = yv at *
    have hfu2 : e2 = 0 → s.size - p2 < f + 1 := fun h => by have h1 := psR_short (V := pValue f) (fun h => Nat.le_of_lt (pValue_short h)) hq2 hp hr2 h; have := hfu1 h1.1; omega
    have CR := Lib.hid (HB w2a p2 e2 n2 c2 A2 _ hp ho hn hfu2)
    with_reducible refine CR.out.mono ?_
    rintro r w3 ⟨p3, A3, n3, c3, e3, i3, o3, rfl, hp3, ho3, hn3, hf3, hr3⟩
    clear CR
    have hq3 := hp
    replace bt := hf3.st ho bt
    replace br := hf3.st ho br
    replace bu := hf3.st ho bu
    replace bv := hf3.st ho bv
    replace hF := hF.trans hf3
    clear ho hn hp hf3
    have hp := hp3
    have ho := ho3
    have hn := hn3
    clear hp3 ho3 hn3
    obtain ⟨⟨x0v, x1v, x2v, x3v⟩, f0v, f1v, f2v, f3v⟩ := BoxN.st4 bv
    go_wp2_with fail
    clear x0v x1v x2v x3v f0v f1v f2v f3v
    replace ho := ho.put4 bv st_ne_node (.string s) (.int .i64 (p3 : Nat)) (.slice A3 n3 c3) (.int .i64 (e3 : Nat))
    replace bt := bt.far4 (g := yv) (by omega) (.string s) (.int .i64 (p3 : Nat)) (.slice A3 n3 c3) (.int .i64 (e3 : Nat))
    replace br := br.far4 (g := yv) (by omega) (.string s) (.int .i64 (p3 : Nat)) (.slice A3 n3 c3) (.int .i64 (e3 : Nat))
    replace bu := bu.far4 (g := yv) (by omega) (.string s) (.int .i64 (p3 : Nat)) (.slice A3 n3 c3) (.int .i64 (e3 : Nat))
    replace bv := bv.put4 rfl s p3 A3 n3 c3 e3
    replace hF := hF.put4 (g := yv) lv_ (.string s) (.int .i64 (p3 : Nat)) (.slice A3 n3 c3) (.int .i64 (e3 : Nat))
    generalize (((((w3).setCell ⟨yv, 0, none⟩ (.string s)).setCell ⟨yv, 1, none⟩ (.int .i64 (p3 : Nat))).setCell ⟨yv, 2, none⟩ (.slice A3 n3 c3)).setCell ⟨yv, 3, none⟩ (.int .i64 (e3 : Nat))) = w3s at *
    have hfu3 : e3 = 0 → s.size - p3 < f + 1 := fun h => by have h1 := psR_short (V := pBlock (pList f)) (fun h => Nat.le_of_lt (pBlock_short (fun h => pList_short h) h)) hq3 hp hr3 h; have := hfu2 h1.1; omega
    have CR := Lib.hid (HB w3s p3 e3 n3 c3 A3 _ hp ho hn hfu3)
    with_reducible refine CR.out.mono ?_
    rintro r w4 ⟨p4, A4, n4, c4, e4, i4, o4, rfl, hp4, ho4, hn4, hf4, hr4⟩
    clear CR
    have hq4 := hp
    replace bt := hf4.st ho bt
    replace br := hf4.st ho br
    replace bu := hf4.st ho bu
    replace bv := hf4.st ho bv
    replace hF := hF.trans hf4
    clear ho hn hp hf4
    have hp := hp4
    have ho := ho4
    have hn := hn4
    clear hp4 ho4 hn4
    obtain ⟨⟨x0v, x1v, x2v, x3v⟩, f0v, f1v, f2v, f3v⟩ := BoxN.st4 bv
    go_wp2_with fail
    clear x0v x1v x2v x3v f0v f1v f2v f3v
    replace ho := ho.put4 bv st_ne_node (.string s) (.int .i64 (p4 : Nat)) (.slice A4 n4 c4) (.int .i64 (e4 : Nat))
    replace bt := bt.far4 (g := yv) (by omega) (.string s) (.int .i64 (p4 : Nat)) (.slice A4 n4 c4) (.int .i64 (e4 : Nat))
    replace br := br.far4 (g := yv) (by omega) (.string s) (.int .i64 (p4 : Nat)) (.slice A4 n4 c4) (.int .i64 (e4 : Nat))
    replace bu := bu.far4 (g := yv) (by omega) (.string s) (.int .i64 (p4 : Nat)) (.slice A4 n4 c4) (.int .i64 (e4 : Nat))
    replace bv := bv.put4 rfl s p4 A4 n4 c4 e4
    replace hF := hF.put4 (g := yv) lv_ (.string s) (.int .i64 (p4 : Nat)) (.slice A4 n4 c4) (.int .i64 (e4 : Nat))
    generalize (((((w4).setCell ⟨yv, 0, none⟩ (.string s)).setCell ⟨yv, 1, none⟩ (.int .i64 (p4 : Nat))).setCell ⟨yv, 2, none⟩ (.slice A4 n4 c4)).setCell ⟨yv, 3, none⟩ (.int .i64 (e4 : Nat))) = w4s at *
    have hl4 := ho.1
    have CD := Lib.hid (RMade_any (w := w4s) (p := p4) (e := e4) hs hp ho hn (8) (0) (i2) (i3) (i4))
    with_reducible refine CD.out.mono ?_
    rintro r w5 ⟨A5, n5, c5, e5, o5, rfl, ho5, hn5, hf5, hd5⟩
    clear CD
    replace bt := hf5.st ho bt
    replace br := hf5.st ho br
    replace bu := hf5.st ho bu
    replace bv := hf5.st ho bv
    replace hF := hF.trans hf5
    clear ho hn hf5
    have ho := ho5
    have hn := hn5
    clear ho5 hn5
    obtain ⟨⟨x0v, x1v, x2v, x3v⟩, f0v, f1v, f2v, f3v⟩ := BoxN.st4 bv
    go_wp2_with fail
    clear x0v x1v x2v x3v f0v f1v f2v f3v
    replace ho := ho.put4 bv st_ne_node (.string s) (.int .i64 (p4 : Nat)) (.slice A5 n5 c5) (.int .i64 (e5 : Nat))
    replace bt := bt.far4 (g := yv) (by omega) (.string s) (.int .i64 (p4 : Nat)) (.slice A5 n5 c5) (.int .i64 (e5 : Nat))
    replace br := br.far4 (g := yv) (by omega) (.string s) (.int .i64 (p4 : Nat)) (.slice A5 n5 c5) (.int .i64 (e5 : Nat))
    replace bu := bu.far4 (g := yv) (by omega) (.string s) (.int .i64 (p4 : Nat)) (.slice A5 n5 c5) (.int .i64 (e5 : Nat))
    replace bv := bv.put4 rfl s p4 A5 n5 c5 e5
    replace hF := hF.put4 (g := yv) lv_ (.string s) (.int .i64 (p4 : Nat)) (.slice A5 n5 c5) (.int .i64 (e5 : Nat))
    generalize (((((w5).setCell ⟨yv, 0, none⟩ (.string s)).setCell ⟨yv, 1, none⟩ (.int .i64 (p4 : Nat))).setCell ⟨yv, 2, none⟩ (.slice A5 n5 c5)).setCell ⟨yv, 3, none⟩ (.int .i64 (e5 : Nat))) = w5s at *
    obtain ⟨⟨x0v, x1v, x2v, x3v⟩, f0v, f1v, f2v, f3v⟩ := BoxN.st4 bv
    obtain ⟨⟨x0r, x1r, x2r, x3r⟩, f0r, f1r, f2r, f3r⟩ := BoxN.stZ br
    have hni : (n5 : Int) ≤ 80 := by omega
    go_wp2_with fail
    go_region
    go_wp2_with fail
    clear x0v x1v x2v x3v f0v f1v f2v f3v
    clear x0r x1r x2r x3r f0r f1r f2r f3r
    replace ho := ho.put4 br st_ne_node (.string s) (.int .i64 (p4 : Nat)) (.slice A5 n5 c5) (.int .i64 (e5 : Nat))
    replace bt := bt.far4 (g := w.heap.size + 1) (by omega) (.string s) (.int .i64 (p4 : Nat)) (.slice A5 n5 c5) (.int .i64 (e5 : Nat))
    replace bu := bu.far4 (g := w.heap.size + 1) (by omega) (.string s) (.int .i64 (p4 : Nat)) (.slice A5 n5 c5) (.int .i64 (e5 : Nat))
    replace bv := bv.far4 (g := w.heap.size + 1) (by omega) (.string s) (.int .i64 (p4 : Nat)) (.slice A5 n5 c5) (.int .i64 (e5 : Nat))
    replace br := br.put4 rfl s p4 A5 n5 c5 e5
    replace hF := hF.put4 (g := w.heap.size + 1) lr_ (.string s) (.int .i64 (p4 : Nat)) (.slice A5 n5 c5) (.int .i64 (e5 : Nat))
    generalize (((((w5s).setCell ⟨w.heap.size + 1, 0, none⟩ (.string s)).setCell ⟨w.heap.size + 1, 1, none⟩ (.int .i64 (p4 : Nat))).setCell ⟨w.heap.size + 1, 2, none⟩ (.slice A5 n5 c5)).setCell ⟨w.heap.size + 1, 3, none⟩ (.int .i64 (e5 : Nat))) = w5ss at *
    refine bodyPost_ret (resRowTmp rfl _ _ (w.heap.size + 1) 57 (svA s p4 A5 n5 c5 e5) (0, 0) _ rfl br Tryz.underlying57 rfl (by kernel_rfl)) rfl ?_
    exact ⟨p4, A5, n5, c5, e5, _, o5, rfl, hp, ho, hn, ⟨⟨hF.keep.os, hF.keep.tape, hF.keep.output, hF.keep.size, hF.keep.block⟩, hF.blk⟩, psR_at0 (fun h => absurd Hx.out.1 h) (fun h => by
      rw [pOne_if Hx.out.2.2 Hp1.out]
      exact psR_then (psR_goods hr2 h) (fun h => ⟨by have a3 := psR_bads hr3 h; have a4 := psR_bads hr4 (by omega); have a5 := hd5.1 (by omega); omega, h⟩) (fun j2 h2 hj2 => psR_then (psR_goods hr3 h2) (fun h => ⟨by have a4 := psR_bads hr4 h; have a5 := hd5.1 (by omega); omega, h⟩) (fun j3 h3 hj3 => psR_then (psR_goods hr4 h3) (fun h => ⟨hd5.1 h, h⟩) (fun j4 h4 hj4 => by subst hj2; subst hj3; subst hj4; exact psR_mk5 hl4 hd5.2 h4))))⟩
  | false =>
    cases h64 : isNext s p e 64 with
    | true =>
      have Hx := Lib.hid (isNext_yes h64)
      obtain ⟨bt, br, hb0⟩ := two_boxes w (svA s p A n c e) svZ 57
      replace ho := ho.below0 hb0
      have hF := PsF.of_below hb0 (.slice A n c)
      have lt_ : w.heap.size ≤ w.heap.size := Nat.le_refl _
      have lr_ : w.heap.size ≤ w.heap.size + 1 := Nat.le_succ _
      have hs0 := hb0.size
      clear hb0
      go_enter Tryz.func35, Tryz.ntmps35
      go_wp2_with fail
      generalize ((w.alloc (.cells #[.string s, .int .i64 (p : Nat), .slice A n c, .int .i64 (e : Nat)] 57)).alloc (.cells #[.string ⟨#[]⟩, .int .i64 0, .slice none 0 0, .int .i64 0] 57)) = w0 at *
      have CS := Lib.hid (RSign_any (s := s) (p := p) (e := e) (A := A) (n := n) (cc := c) (w := w0) (c := 63) (x := 63) rfl hs hp)
      rw [h63, if_neg (by decide)] at CS
      with_reducible refine CS.out.mono ?_
      rintro r w1 ⟨rfl, hb1⟩
      clear CS
      replace bt := bt.all hb1
      replace br := br.all hb1
      replace ho := ho.below0 hb1
      replace hF := hF.trans (PsF.of_below hb1 _)
      clear hb1
      obtain ⟨⟨x0t, x1t, x2t, x3t⟩, f0t, f1t, f2t, f3t⟩ := BoxN.st4 (bt.alloc (.cells (svA s p A n c e) 57))
      go_wp2_with fail
      clear x0t x1t x2t x3t f0t f1t f2t f3t
      have bu := BoxN.new w1 57 (svA s p A n c e)
      have dtu := bt.lt
      replace bt := bt.alloc (.cells (svA s p A n c e) 57)
      have dru := br.lt
      replace br := br.alloc (.cells (svA s p A n c e) 57)
      replace ho := ho.below0 ((Below.refl _ _).alloc (Nat.le_refl _) (.cells (svA s p A n c e) 57))
      have lu_ : w.heap.size ≤ w1.heap.size := hF.keep.size
      replace hF := hF.alloc (.cells (svA s p A n c e) 57)
      generalize (w1.alloc (.cells #[.string s, .int .i64 (p : Nat), .slice A n c, .int .i64 (e : Nat)] 57)) = w1a at *
      generalize w1.heap.size = yu at *
      have CS := Lib.hid (RSign_any (s := s) (p := p) (e := e) (A := A) (n := n) (cc := c) (w := w1a) (c := 64) (x := 64) rfl hs hp)
      rw [h64, if_pos rfl] at CS
      obtain ⟨p2, hp2⟩ : ∃ x, p + 1 = x := ⟨_, rfl⟩
      rw [hp2] at CS
      have Hp2 := Lib.hid hp2
      clear hp2
      with_reducible refine CS.out.mono ?_
      rintro r w2 ⟨rfl, hb2⟩
      clear CS
      replace bt := bt.all hb2
      replace br := br.all hb2
      replace bu := bu.all hb2
      replace ho := ho.below0 hb2
      replace hF := hF.trans (PsF.of_below hb2 _)
      clear hb2
      obtain ⟨⟨x0u, x1u, x2u, x3u⟩, f0u, f1u, f2u, f3u⟩ := BoxN.st4 bu
      go_wp2_with fail
      clear x0u x1u x2u x3u f0u f1u f2u f3u
      replace ho := ho.put4 bu st_ne_node (.string s) (.int .i64 (p2 : Nat)) (.slice A n c) (.int .i64 (e : Nat))
      replace bt := bt.far4 (g := yu) (by omega) (.string s) (.int .i64 (p2 : Nat)) (.slice A n c) (.int .i64 (e : Nat))
      replace br := br.far4 (g := yu) (by omega) (.string s) (.int .i64 (p2 : Nat)) (.slice A n c) (.int .i64 (e : Nat))
      replace bu := bu.put4 rfl s p2 A n c e
      replace hF := hF.put4 (g := yu) lu_ (.string s) (.int .i64 (p2 : Nat)) (.slice A n c) (.int .i64 (e : Nat))
      generalize (((((w2).setCell ⟨yu, 0, none⟩ (.string s)).setCell ⟨yu, 1, none⟩ (.int .i64 (p2 : Nat))).setCell ⟨yu, 2, none⟩ (.slice A n c)).setCell ⟨yu, 3, none⟩ (.int .i64 (e : Nat))) = w2s at *
      have hp1 : p2 ≤ s.size := by have := Hx.out.2.1; have := Hp2.out; omega
      replace hp := hp1
      clear hp1
      have hfu2 : e = 0 → s.size - p2 < f := fun h => by have := Hp2.out; have := Hx.out.2.1; have := hfu h; omega
      have CR := Lib.hid (HV w2s p2 e n c A _ hp ho hn hfu2)
      with_reducible refine CR.out.mono ?_
      rintro r w3 ⟨p3, A3, n3, c3, e3, i3, o3, rfl, hp3, ho3, hn3, hf3, hr3⟩
      clear CR
      have hq3 := hp
      replace bt := hf3.st ho bt
      replace br := hf3.st ho br
      replace bu := hf3.st ho bu
      replace hF := hF.trans hf3
      clear ho hn hp hf3
      have hp := hp3
      have ho := ho3
      have hn := hn3
      clear hp3 ho3 hn3
      go_wp2_with fail
      have bv := BoxN.new w3 57 (svA s p3 A3 n3 c3 e3)
      have dtv := bt.lt
      replace bt := bt.alloc (.cells (svA s p3 A3 n3 c3 e3) 57)
      have drv := br.lt
      replace br := br.alloc (.cells (svA s p3 A3 n3 c3 e3) 57)
      have duv := bu.lt
      replace bu := bu.alloc (.cells (svA s p3 A3 n3 c3 e3) 57)
      replace ho := ho.below0 ((Below.refl _ _).alloc (Nat.le_refl _) (.cells (svA s p3 A3 n3 c3 e3) 57))
      have lv_ : w.heap.size ≤ w3.heap.size := hF.keep.size
      replace hF := hF.alloc (.cells (svA s p3 A3 n3 c3 e3) 57)
      generalize (w3.alloc (.cells #[.string s, .int .i64 (p3 : Nat), .slice A3 n3 c3, .int .i64 (e3 : Nat)] 57)) = w3a at *
      generalize w3.heap.size = yv at *
      have hfu3 : e3 = 0 → s.size - p3 < f + 1 := fun h => by have h1 := psR_short (V := pValue f) (fun h => Nat.le_of_lt (pValue_short h)) hq3 hp hr3 h; have := hfu2 h1.1; omega
      have CR := Lib.hid (HB w3a p3 e3 n3 c3 A3 _ hp ho hn hfu3)
      with_reducible refine CR.out.mono ?_
      rintro r w4 ⟨p4, A4, n4, c4, e4, i4, o4, rfl, hp4, ho4, hn4, hf4, hr4⟩
      clear CR
      have hq4 := hp
      replace bt := hf4.st ho bt
      replace br := hf4.st ho br
      replace bu := hf4.st ho bu
      replace bv := hf4.st ho bv
      replace hF := hF.trans hf4
      clear ho hn hp hf4
      have hp := hp4
      have ho := ho4
      have hn := hn4
      clear hp4 ho4 hn4
      obtain ⟨⟨x0v, x1v, x2v, x3v⟩, f0v, f1v, f2v, f3v⟩ := BoxN.st4 bv
      go_wp2_with fail
      clear x0v x1v x2v x3v f0v f1v f2v f3v
      replace ho := ho.put4 bv st_ne_node (.string s) (.int .i64 (p4 : Nat)) (.slice A4 n4 c4) (.int .i64 (e4 : Nat))
      replace bt := bt.far4 (g := yv) (by omega) (.string s) (.int .i64 (p4 : Nat)) (.slice A4 n4 c4) (.int .i64 (e4 : Nat))
      replace br := br.far4 (g := yv) (by omega) (.string s) (.int .i64 (p4 : Nat)) (.slice A4 n4 c4) (.int .i64 (e4 : Nat))
      replace bu := bu.far4 (g := yv) (by omega) (.string s) (.int .i64 (p4 : Nat)) (.slice A4 n4 c4) (.int .i64 (e4 : Nat))
      replace bv := bv.put4 rfl s p4 A4 n4 c4 e4
      replace hF := hF.put4 (g := yv) lv_ (.string s) (.int .i64 (p4 : Nat)) (.slice A4 n4 c4) (.int .i64 (e4 : Nat))
      generalize (((((w4).setCell ⟨yv, 0, none⟩ (.string s)).setCell ⟨yv, 1, none⟩ (.int .i64 (p4 : Nat))).setCell ⟨yv, 2, none⟩ (.slice A4 n4 c4)).setCell ⟨yv, 3, none⟩ (.int .i64 (e4 : Nat))) = w4s at *
      have hl4 := ho.1
      have CD := Lib.hid (RMade_any (w := w4s) (p := p4) (e := e4) hs hp ho hn (9) (0) (i3) (i4) (0))
      with_reducible refine CD.out.mono ?_
      rintro r w5 ⟨A5, n5, c5, e5, o5, rfl, ho5, hn5, hf5, hd5⟩
      clear CD
      replace bt := hf5.st ho bt
      replace br := hf5.st ho br
      replace bu := hf5.st ho bu
      replace bv := hf5.st ho bv
      replace hF := hF.trans hf5
      clear ho hn hf5
      have ho := ho5
      have hn := hn5
      clear ho5 hn5
      obtain ⟨⟨x0v, x1v, x2v, x3v⟩, f0v, f1v, f2v, f3v⟩ := BoxN.st4 bv
      go_wp2_with fail
      clear x0v x1v x2v x3v f0v f1v f2v f3v
      replace ho := ho.put4 bv st_ne_node (.string s) (.int .i64 (p4 : Nat)) (.slice A5 n5 c5) (.int .i64 (e5 : Nat))
      replace bt := bt.far4 (g := yv) (by omega) (.string s) (.int .i64 (p4 : Nat)) (.slice A5 n5 c5) (.int .i64 (e5 : Nat))
      replace br := br.far4 (g := yv) (by omega) (.string s) (.int .i64 (p4 : Nat)) (.slice A5 n5 c5) (.int .i64 (e5 : Nat))
      replace bu := bu.far4 (g := yv) (by omega) (.string s) (.int .i64 (p4 : Nat)) (.slice A5 n5 c5) (.int .i64 (e5 : Nat))
      replace bv := bv.put4 rfl s p4 A5 n5 c5 e5
      replace hF := hF.put4 (g := yv) lv_ (.string s) (.int .i64 (p4 : Nat)) (.slice A5 n5 c5) (.int .i64 (e5 : Nat))
      generalize (((((w5).setCell ⟨yv, 0, none⟩ (.string s)).setCell ⟨yv, 1, none⟩ (.int .i64 (p4 : Nat))).setCell ⟨yv, 2, none⟩ (.slice A5 n5 c5)).setCell ⟨yv, 3, none⟩ (.int .i64 (e5 : Nat))) = w5s at *
      obtain ⟨⟨x0v, x1v, x2v, x3v⟩, f0v, f1v, f2v, f3v⟩ := BoxN.st4 bv
      obtain ⟨⟨x0r, x1r, x2r, x3r⟩, f0r, f1r, f2r, f3r⟩ := BoxN.stZ br
      have hni : (n5 : Int) ≤ 80 := by omega
      go_wp2_with fail
      go_region
      go_wp2_with fail
      clear x0v x1v x2v x3v f0v f1v f2v f3v
      clear x0r x1r x2r x3r f0r f1r f2r f3r
      replace ho := ho.put4 br st_ne_node (.string s) (.int .i64 (p4 : Nat)) (.slice A5 n5 c5) (.int .i64 (e5 : Nat))
      replace bt := bt.far4 (g := w.heap.size + 1) (by omega) (.string s) (.int .i64 (p4 : Nat)) (.slice A5 n5 c5) (.int .i64 (e5 : Nat))
      replace bu := bu.far4 (g := w.heap.size + 1) (by omega) (.string s) (.int .i64 (p4 : Nat)) (.slice A5 n5 c5) (.int .i64 (e5 : Nat))
      replace bv := bv.far4 (g := w.heap.size + 1) (by omega) (.string s) (.int .i64 (p4 : Nat)) (.slice A5 n5 c5) (.int .i64 (e5 : Nat))
      replace br := br.put4 rfl s p4 A5 n5 c5 e5
      replace hF := hF.put4 (g := w.heap.size + 1) lr_ (.string s) (.int .i64 (p4 : Nat)) (.slice A5 n5 c5) (.int .i64 (e5 : Nat))
      generalize (((((w5s).setCell ⟨w.heap.size + 1, 0, none⟩ (.string s)).setCell ⟨w.heap.size + 1, 1, none⟩ (.int .i64 (p4 : Nat))).setCell ⟨w.heap.size + 1, 2, none⟩ (.slice A5 n5 c5)).setCell ⟨w.heap.size + 1, 3, none⟩ (.int .i64 (e5 : Nat))) = w5ss at *
      refine bodyPost_ret (resRowTmp rfl _ _ (w.heap.size + 1) 57 (svA s p4 A5 n5 c5 e5) (0, 0) _ rfl br Tryz.underlying57 rfl (by kernel_rfl)) rfl ?_
      exact ⟨p4, A5, n5, c5, e5, _, o5, rfl, hp, ho, hn, ⟨⟨hF.keep.os, hF.keep.tape, hF.keep.output, hF.keep.size, hF.keep.block⟩, hF.blk⟩, psR_at0 (fun h => absurd Hx.out.1 h) (fun h => by
        rw [pOne_loop Hx.out.2.2 Hp2.out]
        exact psR_then (psR_goods hr3 h) (fun h => ⟨by have a4 := psR_bads hr4 h; have a5 := hd5.1 (by omega); omega, h⟩) (fun j3 h3 hj3 => psR_then (psR_goods hr4 h3) (fun h => ⟨hd5.1 h, h⟩) (fun j4 h4 hj4 => by subst hj3; subst hj4; exact psR_mk5 hl4 hd5.2 h4)))⟩
    | false =>
      cases hnm : nextName s p e with
      | some m =>
        have Hx := Lib.hid (pOne_name (f := f) h63 h64 hnm)
        have dm : decide ((m : Int) < 0) = false := by simp
        obtain ⟨bt, br, hb0⟩ := two_boxes w (svA s p A n c e) svZ 57
        replace ho := ho.below0 hb0
        have hF := PsF.of_below hb0 (.slice A n c)
        have lt_ : w.heap.size ≤ w.heap.size := Nat.le_refl _
        have lr_ : w.heap.size ≤ w.heap.size + 1 := Nat.le_succ _
        have hs0 := hb0.size
        clear hb0
        go_enter Tryz.func35, Tryz.ntmps35
        go_wp2_with fail
        generalize ((w.alloc (.cells #[.string s, .int .i64 (p : Nat), .slice A n c, .int .i64 (e : Nat)] 57)).alloc (.cells #[.string ⟨#[]⟩, .int .i64 0, .slice none 0 0, .int .i64 0] 57)) = w0 at *
        have CS := Lib.hid (RSign_any (s := s) (p := p) (e := e) (A := A) (n := n) (cc := c) (w := w0) (c := 63) (x := 63) rfl hs hp)
        rw [h63, if_neg (by decide)] at CS
        with_reducible refine CS.out.mono ?_
        rintro r w1 ⟨rfl, hb1⟩
        clear CS
        replace bt := bt.all hb1
        replace br := br.all hb1
        replace ho := ho.below0 hb1
        replace hF := hF.trans (PsF.of_below hb1 _)
        clear hb1
        obtain ⟨⟨x0t, x1t, x2t, x3t⟩, f0t, f1t, f2t, f3t⟩ := BoxN.st4 (bt.alloc (.cells (svA s p A n c e) 57))
        go_wp2_with fail
        clear x0t x1t x2t x3t f0t f1t f2t f3t
        have bu := BoxN.new w1 57 (svA s p A n c e)
        have dtu := bt.lt
        replace bt := bt.alloc (.cells (svA s p A n c e) 57)
        have dru := br.lt
        replace br := br.alloc (.cells (svA s p A n c e) 57)
        replace ho := ho.below0 ((Below.refl _ _).alloc (Nat.le_refl _) (.cells (svA s p A n c e) 57))
        have lu_ : w.heap.size ≤ w1.heap.size := hF.keep.size
        replace hF := hF.alloc (.cells (svA s p A n c e) 57)
        generalize (w1.alloc (.cells #[.string s, .int .i64 (p : Nat), .slice A n c, .int .i64 (e : Nat)] 57)) = w1a at *
        generalize w1.heap.size = yu at *
        have CS := Lib.hid (RSign_any (s := s) (p := p) (e := e) (A := A) (n := n) (cc := c) (w := w1a) (c := 64) (x := 64) rfl hs hp)
        rw [h64, if_neg (by decide)] at CS
        with_reducible refine CS.out.mono ?_
        rintro r w2 ⟨rfl, hb2⟩
        clear CS
        replace bt := bt.all hb2
        replace br := br.all hb2
        replace bu := bu.all hb2
        replace ho := ho.below0 hb2
        replace hF := hF.trans (PsF.of_below hb2 _)
        clear hb2
        obtain ⟨⟨x0u, x1u, x2u, x3u⟩, f0u, f1u, f2u, f3u⟩ := BoxN.st4 bu
        obtain ⟨⟨x0t, x1t, x2t, x3t⟩, f0t, f1t, f2t, f3t⟩ := BoxN.st4 (bt.far4 (g := yu) (by omega) (.string s) (.int .i64 (p : Nat)) (.slice A n c) (.int .i64 (e : Nat)))
        go_wp2_with fail
        clear x0u x1u x2u x3u f0u f1u f2u f3u
        clear x0t x1t x2t x3t f0t f1t f2t f3t
        replace ho := ho.put4 bu st_ne_node (.string s) (.int .i64 (p : Nat)) (.slice A n c) (.int .i64 (e : Nat))
        replace bt := bt.far4 (g := yu) (by omega) (.string s) (.int .i64 (p : Nat)) (.slice A n c) (.int .i64 (e : Nat))
        replace br := br.far4 (g := yu) (by omega) (.string s) (.int .i64 (p : Nat)) (.slice A n c) (.int .i64 (e : Nat))
        replace bu := bu.put4 rfl s p A n c e
        replace hF := hF.put4 (g := yu) lu_ (.string s) (.int .i64 (p : Nat)) (.slice A n c) (.int .i64 (e : Nat))
        generalize (((((w2).setCell ⟨yu, 0, none⟩ (.string s)).setCell ⟨yu, 1, none⟩ (.int .i64 (p : Nat))).setCell ⟨yu, 2, none⟩ (.slice A n c)).setCell ⟨yu, 3, none⟩ (.int .i64 (e : Nat))) = w2s at *
        have CN := Lib.hid (RName_any (s := s) (p := p) (e := e) (A := A) (n := n) (cc := c) (w := w2s) hs hp)
        rw [hnm] at CN
        unfold nameRes at CN
        dsimp only at CN
        obtain ⟨p3, hp3⟩ : ∃ x, p + 1 = x := ⟨_, rfl⟩
        rw [hp3] at CN
        have Hp3 := Lib.hid hp3
        clear hp3
        with_reducible refine CN.out.mono ?_
        rintro r w3 ⟨rfl, hb3⟩
        clear CN
        replace bt := bt.all hb3
        replace br := br.all hb3
        replace bu := bu.all hb3
        replace ho := ho.below0 hb3
        replace hF := hF.trans (PsF.of_below hb3 _)
        clear hb3
        obtain ⟨⟨x0u, x1u, x2u, x3u⟩, f0u, f1u, f2u, f3u⟩ := BoxN.st4 bu
        go_wp2_with fail
        clear x0u x1u x2u x3u f0u f1u f2u f3u
        replace ho := ho.put4 bu st_ne_node (.string s) (.int .i64 (p3 : Nat)) (.slice A n c) (.int .i64 (e : Nat))
        replace bt := bt.far4 (g := yu) (by omega) (.string s) (.int .i64 (p3 : Nat)) (.slice A n c) (.int .i64 (e : Nat))
        replace br := br.far4 (g := yu) (by omega) (.string s) (.int .i64 (p3 : Nat)) (.slice A n c) (.int .i64 (e : Nat))
        replace bu := bu.put4 rfl s p3 A n c e
        replace hF := hF.put4 (g := yu) lu_ (.string s) (.int .i64 (p3 : Nat)) (.slice A n c) (.int .i64 (e : Nat))
        generalize (((((w3).setCell ⟨yu, 0, none⟩ (.string s)).setCell ⟨yu, 1, none⟩ (.int .i64 (p3 : Nat))).setCell ⟨yu, 2, none⟩ (.slice A n c)).setCell ⟨yu, 3, none⟩ (.int .i64 (e : Nat))) = w3s at *
        have hp1 : p3 ≤ s.size := by have := Hx.out.2.1; have := Hp3.out; omega
        replace hp := hp1
        clear hp1
        have CM := Lib.hid (RMust_any (s := s) (p := p3) (e := e) (A := A) (n := n) (cc := c) (w := w3s) (c := 61) (x := 61) rfl hs hp)
        with_reducible refine CM.out.mono ?_
        rintro r w4 ⟨⟨p4, e4, rfl, hm4⟩, hb4⟩
        clear CM
        replace bt := bt.all hb4
        replace br := br.all hb4
        replace bu := bu.all hb4
        replace ho := ho.below0 hb4
        replace hF := hF.trans (PsF.of_below hb4 _)
        have hq4 := hp
        replace hp := hm4.1
        clear hb4
        obtain ⟨⟨x0u, x1u, x2u, x3u⟩, f0u, f1u, f2u, f3u⟩ := BoxN.st4 bu
        go_wp2_with fail
        clear x0u x1u x2u x3u f0u f1u f2u f3u
        replace ho := ho.put4 bu st_ne_node (.string s) (.int .i64 (p4 : Nat)) (.slice A n c) (.int .i64 (e4 : Nat))
        replace bt := bt.far4 (g := yu) (by omega) (.string s) (.int .i64 (p4 : Nat)) (.slice A n c) (.int .i64 (e4 : Nat))
        replace br := br.far4 (g := yu) (by omega) (.string s) (.int .i64 (p4 : Nat)) (.slice A n c) (.int .i64 (e4 : Nat))
        replace bu := bu.put4 rfl s p4 A n c e4
        replace hF := hF.put4 (g := yu) lu_ (.string s) (.int .i64 (p4 : Nat)) (.slice A n c) (.int .i64 (e4 : Nat))
        generalize (((((w4).setCell ⟨yu, 0, none⟩ (.string s)).setCell ⟨yu, 1, none⟩ (.int .i64 (p4 : Nat))).setCell ⟨yu, 2, none⟩ (.slice A n c)).setCell ⟨yu, 3, none⟩ (.int .i64 (e4 : Nat))) = w4s at *
        have hfu4 : e4 = 0 → s.size - p4 < f := fun h => by have h1 := hm4.left h; have := Hp3.out; have := Hx.out.2.1; have := hfu h1.1; omega
        have CR := Lib.hid (HV w4s p4 e4 n c A _ hp ho hn hfu4)
        with_reducible refine CR.out.mono ?_
        rintro r w5 ⟨p5, A5, n5, c5, e5, i5, o5, rfl, hp5, ho5, hn5, hf5, hr5⟩
        clear CR
        have hq5 := hp
        replace bt := hf5.st ho bt
        replace br := hf5.st ho br
        replace bu := hf5.st ho bu
        replace hF := hF.trans hf5
        clear ho hn hp hf5
        have hp := hp5
        have ho := ho5
        have hn := hn5
        clear hp5 ho5 hn5
        obtain ⟨⟨x0u, x1u, x2u, x3u⟩, f0u, f1u, f2u, f3u⟩ := BoxN.st4 bu
        go_wp2_with fail
        clear x0u x1u x2u x3u f0u f1u f2u f3u
        replace ho := ho.put4 bu st_ne_node (.string s) (.int .i64 (p5 : Nat)) (.slice A5 n5 c5) (.int .i64 (e5 : Nat))
        replace bt := bt.far4 (g := yu) (by omega) (.string s) (.int .i64 (p5 : Nat)) (.slice A5 n5 c5) (.int .i64 (e5 : Nat))
        replace br := br.far4 (g := yu) (by omega) (.string s) (.int .i64 (p5 : Nat)) (.slice A5 n5 c5) (.int .i64 (e5 : Nat))
        replace bu := bu.put4 rfl s p5 A5 n5 c5 e5
        replace hF := hF.put4 (g := yu) lu_ (.string s) (.int .i64 (p5 : Nat)) (.slice A5 n5 c5) (.int .i64 (e5 : Nat))
        generalize (((((w5).setCell ⟨yu, 0, none⟩ (.string s)).setCell ⟨yu, 1, none⟩ (.int .i64 (p5 : Nat))).setCell ⟨yu, 2, none⟩ (.slice A5 n5 c5)).setCell ⟨yu, 3, none⟩ (.int .i64 (e5 : Nat))) = w5s at *
        have CM := Lib.hid (RMust_any (s := s) (p := p5) (e := e5) (A := A5) (n := n5) (cc := c5) (w := w5s) (c := 59) (x := 59) rfl hs hp)
        with_reducible refine CM.out.mono ?_
        rintro r w6 ⟨⟨p6, e6, rfl, hm6⟩, hb6⟩
        clear CM
        replace bt := bt.all hb6
        replace br := br.all hb6
        replace bu := bu.all hb6
        replace ho := ho.below0 hb6
        replace hF := hF.trans (PsF.of_below hb6 _)
        have hq6 := hp
        replace hp := hm6.1
        clear hb6
        obtain ⟨⟨x0u, x1u, x2u, x3u⟩, f0u, f1u, f2u, f3u⟩ := BoxN.st4 bu
        go_wp2_with fail
        clear x0u x1u x2u x3u f0u f1u f2u f3u
        replace ho := ho.put4 bu st_ne_node (.string s) (.int .i64 (p6 : Nat)) (.slice A5 n5 c5) (.int .i64 (e6 : Nat))
        replace bt := bt.far4 (g := yu) (by omega) (.string s) (.int .i64 (p6 : Nat)) (.slice A5 n5 c5) (.int .i64 (e6 : Nat))
        replace br := br.far4 (g := yu) (by omega) (.string s) (.int .i64 (p6 : Nat)) (.slice A5 n5 c5) (.int .i64 (e6 : Nat))
        replace bu := bu.put4 rfl s p6 A5 n5 c5 e6
        replace hF := hF.put4 (g := yu) lu_ (.string s) (.int .i64 (p6 : Nat)) (.slice A5 n5 c5) (.int .i64 (e6 : Nat))
        generalize (((((w6).setCell ⟨yu, 0, none⟩ (.string s)).setCell ⟨yu, 1, none⟩ (.int .i64 (p6 : Nat))).setCell ⟨yu, 2, none⟩ (.slice A5 n5 c5)).setCell ⟨yu, 3, none⟩ (.int .i64 (e6 : Nat))) = w6s at *
        have hl4 := ho.1
        have CD := Lib.hid (RMade_any (w := w6s) (p := p6) (e := e6) hs hp ho hn (6) (m) (i5) (0) (0))
        with_reducible refine CD.out.mono ?_
        rintro r w7 ⟨A7, n7, c7, e7, o7, rfl, ho7, hn7, hf7, hd7⟩
        clear CD
        replace bt := hf7.st ho bt
        replace br := hf7.st ho br
        replace bu := hf7.st ho bu
        replace hF := hF.trans hf7
        clear ho hn hf7
        have ho := ho7
        have hn := hn7
        clear ho7 hn7
        obtain ⟨⟨x0u, x1u, x2u, x3u⟩, f0u, f1u, f2u, f3u⟩ := BoxN.st4 bu
        go_wp2_with fail
        clear x0u x1u x2u x3u f0u f1u f2u f3u
        replace ho := ho.put4 bu st_ne_node (.string s) (.int .i64 (p6 : Nat)) (.slice A7 n7 c7) (.int .i64 (e7 : Nat))
        replace bt := bt.far4 (g := yu) (by omega) (.string s) (.int .i64 (p6 : Nat)) (.slice A7 n7 c7) (.int .i64 (e7 : Nat))
        replace br := br.far4 (g := yu) (by omega) (.string s) (.int .i64 (p6 : Nat)) (.slice A7 n7 c7) (.int .i64 (e7 : Nat))
        replace bu := bu.put4 rfl s p6 A7 n7 c7 e7
        replace hF := hF.put4 (g := yu) lu_ (.string s) (.int .i64 (p6 : Nat)) (.slice A7 n7 c7) (.int .i64 (e7 : Nat))
        generalize (((((w7).setCell ⟨yu, 0, none⟩ (.string s)).setCell ⟨yu, 1, none⟩ (.int .i64 (p6 : Nat))).setCell ⟨yu, 2, none⟩ (.slice A7 n7 c7)).setCell ⟨yu, 3, none⟩ (.int .i64 (e7 : Nat))) = w7s at *
        obtain ⟨⟨x0u, x1u, x2u, x3u⟩, f0u, f1u, f2u, f3u⟩ := BoxN.st4 bu
        obtain ⟨⟨x0r, x1r, x2r, x3r⟩, f0r, f1r, f2r, f3r⟩ := BoxN.stZ br
        have hni : (n7 : Int) ≤ 80 := by omega
        go_wp2_with fail
        go_region
        go_wp2_with fail
        clear x0u x1u x2u x3u f0u f1u f2u f3u
        clear x0r x1r x2r x3r f0r f1r f2r f3r
        replace ho := ho.put4 br st_ne_node (.string s) (.int .i64 (p6 : Nat)) (.slice A7 n7 c7) (.int .i64 (e7 : Nat))
        replace bt := bt.far4 (g := w.heap.size + 1) (by omega) (.string s) (.int .i64 (p6 : Nat)) (.slice A7 n7 c7) (.int .i64 (e7 : Nat))
        replace bu := bu.far4 (g := w.heap.size + 1) (by omega) (.string s) (.int .i64 (p6 : Nat)) (.slice A7 n7 c7) (.int .i64 (e7 : Nat))
        replace br := br.put4 rfl s p6 A7 n7 c7 e7
        replace hF := hF.put4 (g := w.heap.size + 1) lr_ (.string s) (.int .i64 (p6 : Nat)) (.slice A7 n7 c7) (.int .i64 (e7 : Nat))
        generalize (((((w7s).setCell ⟨w.heap.size + 1, 0, none⟩ (.string s)).setCell ⟨w.heap.size + 1, 1, none⟩ (.int .i64 (p6 : Nat))).setCell ⟨w.heap.size + 1, 2, none⟩ (.slice A7 n7 c7)).setCell ⟨w.heap.size + 1, 3, none⟩ (.int .i64 (e7 : Nat))) = w7ss at *
        refine bodyPost_ret (resRowTmp rfl _ _ (w.heap.size + 1) 57 (svA s p6 A7 n7 c7 e7) (0, 0) _ rfl br Tryz.underlying57 rfl (by kernel_rfl)) rfl ?_
        exact ⟨p6, A7, n7, c7, e7, _, o7, rfl, hp, ho, hn, ⟨⟨hF.keep.os, hF.keep.tape, hF.keep.output, hF.keep.size, hF.keep.block⟩, hF.blk⟩, psR_at0 (fun h => absurd Hx.out.1 h) (fun h => by
          rw [Hx.out.2.2, Hp3.out]
          exact psR_want hm4 h (fun h => by have a5 := psR_bads hr5 h; have a6 := hm6.2.1 (by omega); have a7 := hd7.1 (by omega); omega) (fun h4 => psR_then (psR_goods hr5 h4) (fun h => ⟨by have a6 := hm6.2.1 h; have a7 := hd7.1 (by omega); omega, h⟩) (fun j5 h5 hj5 => psR_want hm6 h5 (fun h => hd7.1 h) (fun h6 => by subst hj5; exact psR_mk5 hl4 hd7.2 h6))))⟩
      | none =>
        have Hx := Lib.hid (fun he => pOne_none (f := f) (o := o) h63 h64 hnm he)
        obtain ⟨bt, br, hb0⟩ := two_boxes w (svA s p A n c e) svZ 57
        replace ho := ho.below0 hb0
        have hF := PsF.of_below hb0 (.slice A n c)
        have lt_ : w.heap.size ≤ w.heap.size := Nat.le_refl _
        have lr_ : w.heap.size ≤ w.heap.size + 1 := Nat.le_succ _
        have hs0 := hb0.size
        clear hb0
        go_enter Tryz.func35, Tryz.ntmps35
        go_wp2_with fail
        generalize ((w.alloc (.cells #[.string s, .int .i64 (p : Nat), .slice A n c, .int .i64 (e : Nat)] 57)).alloc (.cells #[.string ⟨#[]⟩, .int .i64 0, .slice none 0 0, .int .i64 0] 57)) = w0 at *
        have CS := Lib.hid (RSign_any (s := s) (p := p) (e := e) (A := A) (n := n) (cc := c) (w := w0) (c := 63) (x := 63) rfl hs hp)
        rw [h63, if_neg (by decide)] at CS
        with_reducible refine CS.out.mono ?_
        rintro r w1 ⟨rfl, hb1⟩
        clear CS
        replace bt := bt.all hb1
        replace br := br.all hb1
        replace ho := ho.below0 hb1
        replace hF := hF.trans (PsF.of_below hb1 _)
        clear hb1
        obtain ⟨⟨x0t, x1t, x2t, x3t⟩, f0t, f1t, f2t, f3t⟩ := BoxN.st4 (bt.alloc (.cells (svA s p A n c e) 57))
        go_wp2_with fail
        clear x0t x1t x2t x3t f0t f1t f2t f3t
        have bu := BoxN.new w1 57 (svA s p A n c e)
        have dtu := bt.lt
        replace bt := bt.alloc (.cells (svA s p A n c e) 57)
        have dru := br.lt
        replace br := br.alloc (.cells (svA s p A n c e) 57)
        replace ho := ho.below0 ((Below.refl _ _).alloc (Nat.le_refl _) (.cells (svA s p A n c e) 57))
        have lu_ : w.heap.size ≤ w1.heap.size := hF.keep.size
        replace hF := hF.alloc (.cells (svA s p A n c e) 57)
        generalize (w1.alloc (.cells #[.string s, .int .i64 (p : Nat), .slice A n c, .int .i64 (e : Nat)] 57)) = w1a at *
        generalize w1.heap.size = yu at *
        have CS := Lib.hid (RSign_any (s := s) (p := p) (e := e) (A := A) (n := n) (cc := c) (w := w1a) (c := 64) (x := 64) rfl hs hp)
        rw [h64, if_neg (by decide)] at CS
        with_reducible refine CS.out.mono ?_
        rintro r w2 ⟨rfl, hb2⟩
        clear CS
        replace bt := bt.all hb2
        replace br := br.all hb2
        replace bu := bu.all hb2
        replace ho := ho.below0 hb2
        replace hF := hF.trans (PsF.of_below hb2 _)
        clear hb2
        obtain ⟨⟨x0u, x1u, x2u, x3u⟩, f0u, f1u, f2u, f3u⟩ := BoxN.st4 bu
        obtain ⟨⟨x0t, x1t, x2t, x3t⟩, f0t, f1t, f2t, f3t⟩ := BoxN.st4 (bt.far4 (g := yu) (by omega) (.string s) (.int .i64 (p : Nat)) (.slice A n c) (.int .i64 (e : Nat)))
        go_wp2_with fail
        clear x0u x1u x2u x3u f0u f1u f2u f3u
        clear x0t x1t x2t x3t f0t f1t f2t f3t
        replace ho := ho.put4 bu st_ne_node (.string s) (.int .i64 (p : Nat)) (.slice A n c) (.int .i64 (e : Nat))
        replace bt := bt.far4 (g := yu) (by omega) (.string s) (.int .i64 (p : Nat)) (.slice A n c) (.int .i64 (e : Nat))
        replace br := br.far4 (g := yu) (by omega) (.string s) (.int .i64 (p : Nat)) (.slice A n c) (.int .i64 (e : Nat))
        replace bu := bu.put4 rfl s p A n c e
        replace hF := hF.put4 (g := yu) lu_ (.string s) (.int .i64 (p : Nat)) (.slice A n c) (.int .i64 (e : Nat))
        generalize (((((w2).setCell ⟨yu, 0, none⟩ (.string s)).setCell ⟨yu, 1, none⟩ (.int .i64 (p : Nat))).setCell ⟨yu, 2, none⟩ (.slice A n c)).setCell ⟨yu, 3, none⟩ (.int .i64 (e : Nat))) = w2s at *
        have CN := Lib.hid (RName_any (s := s) (p := p) (e := e) (A := A) (n := n) (cc := c) (w := w2s) hs hp)
        rw [hnm] at CN
        unfold nameRes at CN
        dsimp only at CN
        with_reducible refine CN.out.mono ?_
        rintro r w3 ⟨rfl, hb3⟩
        clear CN
        replace bt := bt.all hb3
        replace br := br.all hb3
        replace bu := bu.all hb3
        replace ho := ho.below0 hb3
        replace hF := hF.trans (PsF.of_below hb3 _)
        clear hb3
        obtain ⟨⟨x0u, x1u, x2u, x3u⟩, f0u, f1u, f2u, f3u⟩ := BoxN.st4 bu
        go_wp2_with fail
        clear x0u x1u x2u x3u f0u f1u f2u f3u
        replace ho := ho.put4 bu st_ne_node (.string s) (.int .i64 (p : Nat)) (.slice A n c) (.int .i64 (e : Nat))
        replace bt := bt.far4 (g := yu) (by omega) (.string s) (.int .i64 (p : Nat)) (.slice A n c) (.int .i64 (e : Nat))
        replace br := br.far4 (g := yu) (by omega) (.string s) (.int .i64 (p : Nat)) (.slice A n c) (.int .i64 (e : Nat))
        replace bu := bu.put4 rfl s p A n c e
        replace hF := hF.put4 (g := yu) lu_ (.string s) (.int .i64 (p : Nat)) (.slice A n c) (.int .i64 (e : Nat))
        generalize (((((w3).setCell ⟨yu, 0, none⟩ (.string s)).setCell ⟨yu, 1, none⟩ (.int .i64 (p : Nat))).setCell ⟨yu, 2, none⟩ (.slice A n c)).setCell ⟨yu, 3, none⟩ (.int .i64 (e : Nat))) = w3s at *
        have CB := Lib.hid (RBad_is (k := 2) (x := 2) rfl s p e A n c w3s)
        obtain ⟨e4, he4⟩ : ∃ x, (if e = 0 then 2 else e) = x := ⟨_, rfl⟩
        rw [he4] at CB
        have He4 := Lib.hid he4
        clear he4
        with_reducible refine CB.out.mono ?_
        rintro r w4 ⟨rfl, hb4⟩
        clear CB
        replace bt := bt.all hb4
        replace br := br.all hb4
        replace bu := bu.all hb4
        replace ho := ho.below0 hb4
        replace hF := hF.trans (PsF.of_below hb4 _)
        clear hb4
        obtain ⟨⟨x0r, x1r, x2r, x3r⟩, f0r, f1r, f2r, f3r⟩ := BoxN.stZ br
        go_wp2_with fail
        clear x0r x1r x2r x3r f0r f1r f2r f3r
        replace ho := ho.put4 br st_ne_node (.string s) (.int .i64 (p : Nat)) (.slice A n c) (.int .i64 (e4 : Nat))
        replace bt := bt.far4 (g := w.heap.size + 1) (by omega) (.string s) (.int .i64 (p : Nat)) (.slice A n c) (.int .i64 (e4 : Nat))
        replace bu := bu.far4 (g := w.heap.size + 1) (by omega) (.string s) (.int .i64 (p : Nat)) (.slice A n c) (.int .i64 (e4 : Nat))
        replace br := br.put4 rfl s p A n c e4
        replace hF := hF.put4 (g := w.heap.size + 1) lr_ (.string s) (.int .i64 (p : Nat)) (.slice A n c) (.int .i64 (e4 : Nat))
        generalize (((((w4).setCell ⟨w.heap.size + 1, 0, none⟩ (.string s)).setCell ⟨w.heap.size + 1, 1, none⟩ (.int .i64 (p : Nat))).setCell ⟨w.heap.size + 1, 2, none⟩ (.slice A n c)).setCell ⟨w.heap.size + 1, 3, none⟩ (.int .i64 (e4 : Nat))) = w4s at *
        refine bodyPost_ret (resRowTmp rfl _ _ (w.heap.size + 1) 57 (svA s p A n c e4) (0, 0) _ rfl br Tryz.underlying57 rfl (by kernel_rfl)) rfl ?_
        exact ⟨p, A, n, c, e4, 0, o, rfl, hp, ho, hn, hF, psR_at0 (fun h => by have := He4.out; rw [if_neg h] at this; exact this.symm) (fun h => by have := He4.out; rw [if_pos h] at this; rw [Hx.out h]; exact ⟨this.symm, by decide⟩)⟩
end Go.Proofs.YtfpghfmdkbdojaaGreatDoor
