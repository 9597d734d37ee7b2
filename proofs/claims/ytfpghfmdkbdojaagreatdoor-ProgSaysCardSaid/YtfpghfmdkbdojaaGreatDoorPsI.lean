/-
  The document's reader of programs: readValue.
-/
import Derived.Test.YtfpghfmdkbdojaaGreatDoorPsF
import Derived.Test.YtfpghfmdkbdojaaGreatDoorPsH
namespace Go.Proofs.YtfpghfmdkbdojaaGreatDoor
open Go.RowKit
set_option maxRecDepth 100000
set_option linter.unusedVariables false

/-- The k-th operator's byte. -/
def opB (k : Nat) : UInt8 := if k = 0 then 43 else if k = 1 then 60 else 61
theorem op_byte {k : Nat} (h : k < 3) (h2 : k < (⟨#[43, 60, 61]⟩ : ByteArray).size) : ((opB k).toNat : Int) = ((⟨#[43, 60, 61]⟩ : ByteArray)[k]'h2).toNat := by
  have : k = 0 ∨ k = 1 ∨ k = 2 := by omega
  rcases this with rfl | rfl | rfl <;> rfl
theorem op_of {k : Nat} (h : k < 3) : opOf (opB k) = some (k + 2) := by
  have : k = 0 ∨ k = 1 ∨ k = 2 := by omega
  rcases this with rfl | rfl | rfl <;> rfl
theorem op_miss {s : ByteArray} {p e : Nat} (h : ∀ j, j < 3 → isNext s p e (opB j) = false) (he : e = 0) {c : UInt8} {l : List UInt8} (hd : s.data.toList.drop p = c :: l) : opOf c = none := by
  have h0 := next_not (h 0 (by decide)) he l
  have h1 := next_not (h 1 (by decide)) he l
  have h2 := next_not (h 2 (by decide)) he l
  rw [hd] at h0 h1 h2
  unfold opOf
  rw [if_neg (fun e => h0 (by rw [e]; rfl)), if_neg (fun e => h1 (by rw [e]; rfl)), if_neg (fun e => h2 (by rw [e]; rfl))]
theorem pValue_op {s : ByteArray} {p p1 g k : Nat} {o : List Int} (hk : k < 3) (hd : ∃ l, s.data.toList.drop p = opB k :: l) (hp : p + 1 = p1) : pValue (g + 1) (s.data.toList.drop p) o = (pValue g (s.data.toList.drop p1) o).andThen fun a l1 o1 => (pValue g l1 o1).andThen fun b l2 o2 => mk5 l2 o2 (2 + (k : Int)) 0 a b 0 := by
  obtain ⟨l, hd⟩ := hd
  subst hp
  rw [drop_next hd, pValue, op_of hk]
  simp only
  rw [show ((k + 2 : Nat) : Int) = 2 + (k : Int) by omega]
theorem pValue_num {s : ByteArray} {p p1 g : Nat} {o : List Int} (hd : ∃ l, s.data.toList.drop p = 35 :: l) (hp : p + 1 = p1) : pValue (g + 1) (s.data.toList.drop p) o = match numOf ((s.data.toList.drop p1).takeWhile isDig) with
    | some n => mk5 ((s.data.toList.drop p1).dropWhile isDig) o 0 n 0 0 0
    | none => .bad 2 := by
  obtain ⟨l, hd⟩ := hd
  subst hp
  rw [drop_next hd, pValue, show opOf 35 = none from rfl]
  simp only
  rw [if_pos trivial]
  cases numOf ((s.data.toList.drop (p + 1)).takeWhile isDig) <;> rfl
theorem pValue_var {s : ByteArray} {p p1 e g m : Nat} {o : List Int} (h : ∀ j, j < 3 → isNext s p e (opB j) = false) (h35 : isNext s p e 35 = false) (hn : nextName s p e = some m) (hp : p + 1 = p1) : pValue (g + 1) (s.data.toList.drop p) o = mk5 (s.data.toList.drop p1) o 1 m 0 0 0 := by
  obtain ⟨he, hlt, c, hd, hc⟩ := nextName_some hn
  have n35 := next_not h35 he (s.data.toList.drop (p + 1))
  have ho := op_miss h he hd
  subst hp
  rw [hd] at n35 ⊢
  rw [pValue, ho]
  simp only
  rw [if_neg (fun e => n35 (by rw [e])), hc]
theorem pValue_none {s : ByteArray} {p e g : Nat} {o : List Int} (h : ∀ j, j < 3 → isNext s p e (opB j) = false) (h35 : isNext s p e 35 = false) (hn : nextName s p e = none) (he : e = 0) : pValue (g + 1) (s.data.toList.drop p) o = .bad 2 := by
  cases hd : s.data.toList.drop p with
  | nil => rfl
  | cons c l =>
    have n35 := next_not h35 he l
    have ho := op_miss h he hd
    rw [hd] at n35
    have hc : nameOf c = none := by
      unfold nextName at hn
      rw [if_pos he, hd] at hn
      exact hn
    rw [pValue, ho]
    simp only
    rw [if_neg (fun e => n35 (by rw [e])), hc]
theorem take_next {s : ByteArray} {p1 d q : Nat} (hq : p1 + d = q) (hlt : q < s.size) : (s.data.toList.drop p1).take (d + 1) = (s.data.toList.drop p1).take d ++ [s[q]] := by
  subst hq
  rw [List.take_add_one, List.getElem?_drop]
  rw [List.getElem?_eq_getElem (by simpa using hlt)]
  rfl
theorem noDig_at {s : ByteArray} {p1 d q : Nat} (hq : p1 + d = q) (h : ∀ hlt : q < s.size, ¬ (48 ≤ s[q].toNat ∧ s[q].toNat ≤ 57)) : NoDig ((s.data.toList.drop p1).drop d) := by
  intro c r hd
  rw [List.drop_drop, hq] at hd
  have hlt : q < s.size := by
    have := congrArg List.length hd
    rw [List.length_drop, List.length_cons] at this
    have hsz : s.data.toList.length = s.size := by simp
    omega
  have h1 := head_at hlt
  rw [hd] at h1
  injection h1 with h1
  subst h1
  unfold isDig
  exact decide_eq_false (h hlt)
theorem extract_take {s : ByteArray} {p1 d q : Nat} (hq : p1 + d = q) : (s.extract p1 q).data.toList = (s.data.toList.drop p1).take d := by
  subst hq
  rw [Lib.extract_data, Nat.add_sub_cancel_left]
/-- What the walk of a number knows behind its digits. -/
structure NumAt (s : ByteArray) (p1 d q a : Nat) : Prop where
  hq : p1 + d = q
  d7 : d ≤ 7
  le : q ≤ s.size
  dig : ∀ c ∈ (s.data.toList.drop p1).take d, isDig c = true
  val : decV ((s.data.toList.drop p1).take d) = a
theorem NumAt.small {s : ByteArray} {p1 d q a : Nat} (h : NumAt s p1 d q a) : a ≤ 9999999 := by
  have h1 := decV_lt _ h.dig
  rw [h.val, List.length_take] at h1
  have h2 : 10 ^ min d (s.data.toList.drop p1).length ≤ 10 ^ 7 := Nat.pow_le_pow_right (by decide) (by have := h.d7; omega)
  omega
theorem NumAt.lenle {s : ByteArray} {p1 d q a : Nat} (h : NumAt s p1 d q a) : d ≤ (s.data.toList.drop p1).length := by
  rw [List.length_drop]
  have hsz : s.data.toList.length = s.size := by simp
  have := h.hq; have := h.le
  omega
theorem NumAt.start {s : ByteArray} {p1 : Nat} (h : p1 ≤ s.size) : NumAt s p1 0 p1 0 := ⟨rfl, by decide, h, fun c hc => (by cases hc), rfl⟩
theorem NumAt.next {s : ByteArray} {p1 d q a : Nat} (h : NumAt s p1 d q a) (hlt : q < s.size) (h1 : 48 ≤ s[q].toNat) (h2 : s[q].toNat ≤ 57) (h7 : d < 7) : NumAt s p1 (d + 1) (q + 1) (a * 10 + (s[q].toNat - 48)) := by
  refine ⟨by have := h.hq; omega, h7, hlt, ?_, ?_⟩
  · rw [take_next h.hq hlt]
    intro c hc
    rcases List.mem_append.1 hc with hc | hc
    · exact h.dig c hc
    · rw [List.mem_singleton] at hc
      subst hc
      exact decide_eq_true ⟨h1, h2⟩
  · rw [take_next h.hq hlt, decV_snoc, h.val]
theorem NumAt.good {s : ByteArray} {p1 d q a : Nat} (h : NumAt s p1 d q a) (he : d = 7 ∨ NoDig ((s.data.toList.drop p1).drop d)) (h1 : a ≤ 999999) (h2 : Lib.itoa (a : Int) = (s.extract p1 q).data.toList) :
    numOf ((s.data.toList.drop p1).takeWhile isDig) = some a ∧ (s.data.toList.drop p1).dropWhile isDig = s.data.toList.drop q := by
  rw [extract_take h.hq] at h2
  obtain ⟨h3, h4⟩ := num_ok h.dig h.d7 h.lenle he (by rw [h.val]; exact h1) (by rw [h.val]; exact h2)
  rw [h.val] at h3
  exact ⟨h3, by rw [h4, List.drop_drop, h.hq]⟩
theorem NumAt.bad {s : ByteArray} {p1 d q a : Nat} (h : NumAt s p1 d q a) (he : d = 7 ∨ NoDig ((s.data.toList.drop p1).drop d)) (hb : d = 0 ∨ 999999 < a ∨ Lib.itoa (a : Int) ≠ (s.extract p1 q).data.toList) : numOf ((s.data.toList.drop p1).takeWhile isDig) = none :=
  num_bad h.dig h.d7 h.lenle he (by rw [h.val]; rw [extract_take h.hq] at hb; exact hb)
/- printed by tools/psgen.py -/
set_option maxHeartbeats 16000000 in
theorem RValue_any {s : ByteArray} {f : Nat} (hs : s.size ≤ 300) (HV : ∀ g, f = g + 1 → PsC s 47 (pValue g) g) : PsC s 47 (pValue f) f := by
  intro w p e n c A o hp ho hn hfu
  obtain ⟨bt, br, hb0⟩ := two_boxes w (svA s p A n c e) svZ 57
  replace ho := ho.below0 hb0
  have hF := PsF.of_below hb0 (.slice A n c)
  have lt_ : w.heap.size ≤ w.heap.size := Nat.le_refl _
  have lr_ : w.heap.size ≤ w.heap.size + 1 := Nat.le_succ _
  have hs0 := hb0.size
  clear hb0
  go_enter Tryz.func47, Tryz.ntmps47
  go_wp2_with fail
  generalize ((w.alloc (.cells #[.string s, .int .i64 (p : Nat), .slice A n c, .int .i64 (e : Nat)] 57)).alloc (.cells #[.string ⟨#[]⟩, .int .i64 0, .slice none 0 0, .int .i64 0] 57)) = w0 at *
  go_loopw [4] (fun i wr => ∃ k : Nat, k ≤ 3 ∧ i = .int .i64 k ∧ Hid (∀ j, j < k → isNext s p e (opB j) = false) ∧ Below w0.heap.size w0 wr) (fun i _ => 3 - (intOf i).toNat)
  case atStart => exact ⟨0, Nat.zero_le _, rfl, Lib.hid (fun j hj => by omega), Below.refl _ _⟩
  case round =>
    obtain ⟨k, hk, rfl, hall, hbr⟩ := hrel
    have hsz := hbr.size
    replace bt := bt.all hbr
    replace br := br.all hbr
    replace ho := ho.below0 hbr
    replace hF := hF.trans (PsF.of_below hbr _)
    by_cases hlt : k < 3
    · have hk3 : (k : Int) < 3 := by omega
      obtain ⟨⟨x0t, x1t, x2t, x3t⟩, f0t, f1t, f2t, f3t⟩ := BoxN.st4 bt
      have hxl := bt.lt
      have hKeep := Lib.hid (fun V (hV : Below wr.heap.size wr V) => (⟨(hV.cell (p := ⟨w.heap.size, 0, none⟩) hxl).trans x0t, (hV.cell (p := ⟨w.heap.size, 1, none⟩) hxl).trans x1t, (hV.cell (p := ⟨w.heap.size, 2, none⟩) hxl).trans x2t, (hV.cell (p := ⟨w.heap.size, 3, none⟩) hxl).trans x3t⟩ : V.cell? ⟨w.heap.size, 0, none⟩ = some (.string s) ∧ V.cell? ⟨w.heap.size, 1, none⟩ = some (.int .i64 p) ∧ V.cell? ⟨w.heap.size, 2, none⟩ = some (.slice A n c) ∧ V.cell? ⟨w.heap.size, 3, none⟩ = some (.int .i64 e)))
      have CS := Lib.hid (fun V (x : Int) (hx : ((opB k).toNat : Int) = x) (hV : Below wr.heap.size wr V) => (RSign_any (A := A) (n := n) (cc := c) (e := e) (p := p) (w := V) hx hs hp).mono fun r w' ⟨he, hb⟩ => (⟨he, hV.trans (hb.mono hV.size), hb⟩ : _ ∧ Below wr.heap.size wr w' ∧ Below V.heap.size V w'))
      have hbA : Below wr.heap.size wr wr.drew := (Below.refl _ _).drew
      have hbB : Below wr.heap.size wr ((wr.alloc (.cells #[.string ⟨#[]⟩, .int .i64 0, .slice none 0 0, .int .i64 0] 57)).drew) := ((Below.refl _ _).alloc (Nat.le_refl _) _).drew
      have hZ : BoxN ((wr.alloc (.cells #[.string ⟨#[]⟩, .int .i64 0, .slice none 0 0, .int .i64 0] 57)).drew) wr.heap.size 57 #[.string ⟨#[]⟩, .int .i64 0, .slice none 0 0, .int .i64 0] := (BoxN.new wr _ _).drew
      have hlb := op_byte hlt (show k < 3 from hlt)
      obtain ⟨b, hb⟩ : ∃ b, isNext s p e (opB k) = b := ⟨_, rfl⟩
      rw [hb] at CS
      obtain ⟨q, hq⟩ : ∃ q, (if b = true then p + 1 else p) = q := ⟨_, rfl⟩
      rw [hq] at CS
      have Hb := Lib.hid hb
      have Hq := Lib.hid hq
      clear hb hq
      go_wp2_with fail
      go_cut [5, 6] from 15 to 48 (fun x5 x6 wx => ∃ (xc : Nat), x5 = .pointer (some ⟨xc, 0, none⟩) ∧ x6 = .bool b ∧ BoxN wx xc 57 (svA s q A n c e) ∧ w.heap.size ≤ xc ∧ w.heap.size + 1 < xc ∧ Below wr.heap.size wr wx)
      case first =>
        have hr2 := br.lt
        go_region_held3 (fun V => V.cell? ⟨w.heap.size, 0, none⟩ = some (.string s) ∧ V.cell? ⟨w.heap.size, 1, none⟩ = some (.int .i64 p) ∧ V.cell? ⟨w.heap.size, 2, none⟩ = some (.slice A n c) ∧ V.cell? ⟨w.heap.size, 3, none⟩ = some (.int .i64 e))
          ((refine hKeep.out _ ?_; repeat (first | assumption | exact hbA | exact hbB | refine Below.setCell ?_ (by simp) _ | refine Below.alloc ?_ (by first | exact Nat.le_refl _ | exact Below.size (by assumption)) _ | refine Below.drew ?_)))
          ((go_at_call 46; (with_reducible refine (CS.out _ _ hlb (by first | exact hbA | exact hbB)).mono ?_); rintro r w5 ⟨rfl, hb5, hbv⟩; try (have hz5 := BoxN.all hZ hbv; obtain ⟨⟨z0, z1, z2, z3⟩, g0, g1, g2, g3⟩ := BoxN.stZ hz5)))
        all_goals (go_wp2_with fail; go_meet)
        · exact ⟨_, rfl, rfl, BoxN.new _ _ _, by have := hb5.size; omega, by have := hb5.size; omega, hb5.alloc hb5.size _⟩
        · exact ⟨_, rfl, rfl, hz5.put4 rfl _ _ _ _ _ _, by omega, by omega, below_put4 hb5 (Nat.le_refl _) _ _ _ _⟩
        · exact ⟨_, rfl, rfl, hz5.put4 rfl _ _ _ _ _ _, by omega, by omega, below_put4 hb5 (Nat.le_refl _) _ _ _ _⟩
      case rest =>
        obtain ⟨yu, rfl, rfl, bu, lu_, dru, hb5⟩ := hcut
        have dtu : w.heap.size < yu := by omega
        clear CS hbA hbB hZ hKeep
        clear x0t x1t x2t x3t f0t f1t f2t f3t
        cases b with
        | false =>
          have Hn := Lib.hid (show ∀ j, j < k + 1 → isNext s p e (opB j) = false from fun j hj => by
            rcases Nat.lt_or_ge j k with hjk | hjk
            · exact hall.out j hjk
            · obtain rfl : j = k := by omega
              exact Hb.out)
          go_wp2_with fail
          refine ⟨⟨k + 1, ?ya, ?yb, Hn, hbr.trans (hb5.mono hsz)⟩, ?yd⟩
          case ya => omega
          case yb => go_num
          case yd => simp [intOf]; omega
        | true =>
          have Hx := Lib.hid (isNext_yes Hb.out)
          have Hp1 := Lib.hid (show p + 1 = q from by have := Hq.out; rw [if_pos rfl] at this; exact this)
          clear Hq
          replace bt := bt.all hb5
          replace br := br.all hb5
          replace ho := ho.below0 hb5
          replace hF := hF.trans (PsF.of_below hb5 _)
          clear hbr
          obtain ⟨g, rfl⟩ : ∃ g, f = g + 1 := ⟨f - 1, by have := hfu Hx.out.1; omega⟩
          have hp1 : q ≤ s.size := by have := Hx.out.2.1; have := Hp1.out; omega
          replace hp := hp1
          clear hp1
          have hfu1 : e = 0 → s.size - q < g := fun h => by have := Hp1.out; have := Hx.out.2.1; have := hfu h; omega
          obtain ⟨⟨x0u, x1u, x2u, x3u⟩, f0u, f1u, f2u, f3u⟩ := BoxN.st4 bu
          go_wp2_with fail
          clear x0u x1u x2u x3u f0u f1u f2u f3u
          have CR := Lib.hid (HV g rfl wc q e n c A _ hp ho hn hfu1)
          with_reducible refine CR.out.mono ?_
          rintro r w2 ⟨p2, A2, n2, c2, e2, i2, o2, rfl, hp2, ho2, hn2, hf2, hr2⟩
          clear CR
          have hq2 := hp
          replace bt := hf2.st ho bt
          replace br := hf2.st ho br
          replace bu := hf2.st ho bu
          replace hF := hF.trans hf2
          clear ho hn hp hf2
          have hp := hp2
          have ho := ho2
          have hn := hn2
          clear hp2 ho2 hn2
          go_wp2_with fail
          have bv := BoxN.new w2 57 (svA s p2 A2 n2 c2 e2)
          have dtv := bt.lt
          replace bt := bt.alloc (.cells (svA s p2 A2 n2 c2 e2) 57)
          have drv := br.lt
          replace br := br.alloc (.cells (svA s p2 A2 n2 c2 e2) 57)
          have duv := bu.lt
          replace bu := bu.alloc (.cells (svA s p2 A2 n2 c2 e2) 57)
          replace ho := ho.below0 ((Below.refl _ _).alloc (Nat.le_refl _) (.cells (svA s p2 A2 n2 c2 e2) 57))
          have lv_ : w.heap.size ≤ w2.heap.size := hF.keep.size
          replace hF := hF.alloc (.cells (svA s p2 A2 n2 c2 e2) 57)
          generalize (w2.alloc (.cells #[.string s, .int .i64 (p2 : Nat), .slice A2 n2 c2, .int .i64 (e2 : Nat)] 57)) = w2a at *
          generalize w2.heap.size = yv at *
          have hfu2 : e2 = 0 → s.size - p2 < g := fun h => by have h1 := psR_short (V := pValue g) (fun h => Nat.le_of_lt (pValue_short h)) hq2 hp hr2 h; have := hfu1 h1.1; omega
          have CR := Lib.hid (HV g rfl w2a p2 e2 n2 c2 A2 _ hp ho hn hfu2)
          with_reducible refine CR.out.mono ?_
          rintro r w3 ⟨p3, A3, n3, c3, e3, i3, o3, rfl, hp3, ho3, hn3, hf3, hr3⟩
          clear CR
          have hq3 := hp
          replace bt := hf3.st ho bt
          replace br := hf3.st ho br
          replace bu := hf3.st ho bu
          replace bv := hf3.st ho bv
          replace hF := hF.trans hf3
          clear ho hn hp hf3
          have hp := hp3
          have ho := ho3
          have hn := hn3
          clear hp3 ho3 hn3
          obtain ⟨⟨x0v, x1v, x2v, x3v⟩, f0v, f1v, f2v, f3v⟩ := BoxN.st4 bv
          go_wp2_with fail
          clear x0v x1v x2v x3v f0v f1v f2v f3v
          replace ho := ho.put4 bv st_ne_node (.string s) (.int .i64 (p3 : Nat)) (.slice A3 n3 c3) (.int .i64 (e3 : Nat))
          replace bt := bt.far4 (g := yv) (by omega) (.string s) (.int .i64 (p3 : Nat)) (.slice A3 n3 c3) (.int .i64 (e3 : Nat))
          replace br := br.far4 (g := yv) (by omega) (.string s) (.int .i64 (p3 : Nat)) (.slice A3 n3 c3) (.int .i64 (e3 : Nat))
          replace bu := bu.far4 (g := yv) (by omega) (.string s) (.int .i64 (p3 : Nat)) (.slice A3 n3 c3) (.int .i64 (e3 : Nat))
          replace bv := bv.put4 rfl s p3 A3 n3 c3 e3
          replace hF := hF.put4 (g := yv) lv_ (.string s) (.int .i64 (p3 : Nat)) (.slice A3 n3 c3) (.int .i64 (e3 : Nat))
          generalize (((((w3).setCell ⟨yv, 0, none⟩ (.string s)).setCell ⟨yv, 1, none⟩ (.int .i64 (p3 : Nat))).setCell ⟨yv, 2, none⟩ (.slice A3 n3 c3)).setCell ⟨yv, 3, none⟩ (.int .i64 (e3 : Nat))) = w3s at *
          have hl4 := ho.1
          have CD := Lib.hid (RMade_any (w := w3s) (p := p3) (e := e3) hs hp ho hn (2 + (k : Int)) (0) (i2) (i3) (0))
          with_reducible refine CD.out.mono ?_
          rintro r w5 ⟨A5, n5, c5, e5, o5, rfl, ho5, hn5, hf5, hd5⟩
          clear CD
          replace bt := hf5.st ho bt
          replace br := hf5.st ho br
          replace bu := hf5.st ho bu
          replace bv := hf5.st ho bv
          replace hF := hF.trans hf5
          clear ho hn hf5
          have ho := ho5
          have hn := hn5
          clear ho5 hn5
          obtain ⟨⟨x0v, x1v, x2v, x3v⟩, f0v, f1v, f2v, f3v⟩ := BoxN.st4 bv
          go_wp2_with fail
          clear x0v x1v x2v x3v f0v f1v f2v f3v
          replace ho := ho.put4 bv st_ne_node (.string s) (.int .i64 (p3 : Nat)) (.slice A5 n5 c5) (.int .i64 (e5 : Nat))
          replace bt := bt.far4 (g := yv) (by omega) (.string s) (.int .i64 (p3 : Nat)) (.slice A5 n5 c5) (.int .i64 (e5 : Nat))
          replace br := br.far4 (g := yv) (by omega) (.string s) (.int .i64 (p3 : Nat)) (.slice A5 n5 c5) (.int .i64 (e5 : Nat))
          replace bu := bu.far4 (g := yv) (by omega) (.string s) (.int .i64 (p3 : Nat)) (.slice A5 n5 c5) (.int .i64 (e5 : Nat))
          replace bv := bv.put4 rfl s p3 A5 n5 c5 e5
          replace hF := hF.put4 (g := yv) lv_ (.string s) (.int .i64 (p3 : Nat)) (.slice A5 n5 c5) (.int .i64 (e5 : Nat))
          generalize (((((w5).setCell ⟨yv, 0, none⟩ (.string s)).setCell ⟨yv, 1, none⟩ (.int .i64 (p3 : Nat))).setCell ⟨yv, 2, none⟩ (.slice A5 n5 c5)).setCell ⟨yv, 3, none⟩ (.int .i64 (e5 : Nat))) = w5s at *
          obtain ⟨⟨x0v, x1v, x2v, x3v⟩, f0v, f1v, f2v, f3v⟩ := BoxN.st4 bv
          obtain ⟨⟨x0r, x1r, x2r, x3r⟩, f0r, f1r, f2r, f3r⟩ := BoxN.stZ br
          have hni : (n5 : Int) ≤ 80 := by omega
          go_wp2_with fail
          go_region
          go_wp2_with fail
          clear x0r x1r x2r x3r f0r f1r f2r f3r
          clear x0v x1v x2v x3v f0v f1v f2v f3v
          replace ho := ho.put4 br st_ne_node (.string s) (.int .i64 (p3 : Nat)) (.slice A5 n5 c5) (.int .i64 (e5 : Nat))
          replace bt := bt.far4 (g := w.heap.size + 1) (by omega) (.string s) (.int .i64 (p3 : Nat)) (.slice A5 n5 c5) (.int .i64 (e5 : Nat))
          replace bu := bu.far4 (g := w.heap.size + 1) (by omega) (.string s) (.int .i64 (p3 : Nat)) (.slice A5 n5 c5) (.int .i64 (e5 : Nat))
          replace bv := bv.far4 (g := w.heap.size + 1) (by omega) (.string s) (.int .i64 (p3 : Nat)) (.slice A5 n5 c5) (.int .i64 (e5 : Nat))
          replace br := br.put4 rfl s p3 A5 n5 c5 e5
          replace hF := hF.put4 (g := w.heap.size + 1) lr_ (.string s) (.int .i64 (p3 : Nat)) (.slice A5 n5 c5) (.int .i64 (e5 : Nat))
          generalize (((((w5s).setCell ⟨w.heap.size + 1, 0, none⟩ (.string s)).setCell ⟨w.heap.size + 1, 1, none⟩ (.int .i64 (p3 : Nat))).setCell ⟨w.heap.size + 1, 2, none⟩ (.slice A5 n5 c5)).setCell ⟨w.heap.size + 1, 3, none⟩ (.int .i64 (e5 : Nat))) = w5ss at *
          refine bodyPost_ret (resRowTmp rfl _ _ (w.heap.size + 1) 57 (svA s p3 A5 n5 c5 e5) (0, 0) _ rfl br Tryz.underlying57 rfl (by kernel_rfl)) rfl ?_
          exact ⟨p3, A5, n5, c5, e5, _, o5, rfl, hp, ho, hn, ⟨⟨hF.keep.os, hF.keep.tape, hF.keep.output, hF.keep.size, hF.keep.block⟩, hF.blk⟩, psR_at0 (fun h => absurd Hx.out.1 h) (fun h => by
            rw [pValue_op hlt Hx.out.2.2 Hp1.out]
            exact psR_then (psR_goods hr2 h) (fun h => ⟨by have a4 := psR_bads hr3 h; have a5 := hd5.1 (by omega); omega, h⟩) (fun j2 h2 hj2 => psR_then (psR_goods hr3 h2) (fun h => ⟨hd5.1 h, h⟩) (fun j3 h3 hj3 => by subst hj2; subst hj3; exact psR_mk5 hl4 hd5.2 h3)))⟩
    · obtain rfl : k = 3 := by omega
      clear hbr
      cases h35 : isNext s p e 35 with
      | true =>
        have Hx := Lib.hid (isNext_yes h35)
        have hl4 := ho.1
        obtain ⟨⟨x0t, x1t, x2t, x3t⟩, f0t, f1t, f2t, f3t⟩ := BoxN.st4 bt
        go_wp2_with fail
        clear x0t x1t x2t x3t f0t f1t f2t f3t
        have CS := Lib.hid (RSign_any (s := s) (p := p) (e := e) (A := A) (n := n) (cc := c) (w := wr) (c := 35) (x := 35) rfl hs hp)
        rw [h35, if_pos rfl] at CS
        obtain ⟨p1, hp1⟩ : ∃ x, p + 1 = x := ⟨_, rfl⟩
        rw [hp1] at CS
        have Hp1 := Lib.hid hp1
        clear hp1
        with_reducible refine CS.out.mono ?_
        rintro r w1 ⟨rfl, hb1⟩
        clear CS
        replace bt := bt.all hb1
        replace br := br.all hb1
        replace ho := ho.below0 hb1
        replace hF := hF.trans (PsF.of_below hb1 _)
        clear hb1
        have hp1 : p1 ≤ s.size := by have := Hx.out.2.1; have := Hp1.out; omega
        go_wp2_with fail
        have bx := BoxN.new w1 57 (svA s p1 A n c e)
        have dtx := bt.lt
        replace bt := bt.alloc (.cells (svA s p1 A n c e) 57)
        have drx := br.lt
        replace br := br.alloc (.cells (svA s p1 A n c e) 57)
        replace ho := ho.below0 ((Below.refl _ _).alloc (Nat.le_refl _) (.cells (svA s p1 A n c e) 57))
        have lx_ : w.heap.size ≤ w1.heap.size := hF.keep.size
        replace hF := hF.alloc (.cells (svA s p1 A n c e) 57)
        generalize (w1.alloc (.cells #[.string s, .int .i64 (p1 : Nat), .slice A n c, .int .i64 (e : Nat)] 57)) = w1a at *
        generalize w1.heap.size = yx at *
        go_loopg [12] (s.size + 1) (fun m nv wr => ∃ (d q a : Nat), nv = .int .i64 a ∧ s.size - q < m ∧ Hid (NumAt s p1 d q a) ∧ BoxN wr w.heap.size 57 (svA s p A n c e) ∧ BoxN wr (w.heap.size + 1) 57 svZ ∧ BoxN wr yx 57 (svA s q A n c e) ∧ OwnN wr 0 (.slice A n c) n o ∧ PsF w wr (.slice A n c) (.slice A n c))
        case atStart => exact ⟨0, p1, 0, rfl, by omega, Lib.hid (NumAt.start hp1), bt, br, bx, ho, hF⟩
        case round =>
          clear bt br bx ho hF
          obtain ⟨d, q, a, rfl, hqm, hN, bt, br, bx, ho, hF⟩ := hrel
          have hqs := hN.out.le
          have hq1 := hN.out.hq
          have hd7 := hN.out.d7
          have hsm := hN.out.small
          have ha9 : (a : Int) ≤ 9999999 := by omega
          have hq300 : (q : Int) ≤ 300 := by omega
          have hp300 : (p1 : Int) ≤ 300 := by omega
          have hq0 : (0 : Int) ≤ (q : Int) := by omega
          by_cases hlt : q < s.size
          · have c1 : (q : Int) < (s.size : Int) := by omega
            by_cases h48 : 48 ≤ s[q].toNat
            · have c2 : (48 : Int) ≤ (s[q].toNat : Int) := by omega
              by_cases h57 : s[q].toNat ≤ 57
              · have c3 : (s[q].toNat : Int) ≤ 57 := by omega
                by_cases h7 : d < 7
                · have c4 : (q : Int) < (p1 : Int) + 7 := by omega
                  have hN2 := Lib.hid (hN.out.next hlt h48 h57 h7)
                  obtain ⟨⟨x0x, x1x, x2x, x3x⟩, f0x, f1x, f2x, f3x⟩ := BoxN.st4 bx
                  have c5 : (0 : Int) ≤ (a : Int) := by omega
                  go_wp2_with fail
                  clear x0x x1x x2x x3x f0x f1x f2x f3x
                  go_roundg (s.size - q)
                  case measure => omega
                  case rel => exact ⟨d + 1, q + 1, a * 10 + (s[q].toNat - 48), congrArg (fun z : Int => Value.int .i64 z) (by omega), by omega, hN2, bt.other (a := ⟨yx, 1, none⟩) (by show w.heap.size ≠ yx; omega) _, br.other (a := ⟨yx, 1, none⟩) (by show w.heap.size + 1 ≠ yx; omega) _, bx.set 1 (.int .i64 ((q + 1 : Nat) : Int)), ho.setBox bx st_ne_node 1 _, hF.setNew (p := ⟨yx, 1, none⟩) lx_ _⟩
                · have c4 : decide ((q : Int) < (p1 : Int) + 7) = false := by simp; omega
                  have Hex := Lib.hid (show d = 7 ∨ NoDig ((s.data.toList.drop p1).drop d) from .inl (by omega))
                  have hi0 : (0 : Int) ≤ (p1 : Int) := by omega
                  have hi1 : (p1 : Int) ≤ (q : Int) := by omega
                  have hi2 : (q : Int) ≤ (s.size : Int) := by omega
                  by_cases h0 : d = 0
                  · exfalso; omega
                  have dz : ((q : Int) == (p1 : Int)) = false := by simp; omega
                  by_cases h9 : 999999 < a
                  · have dn : decide ((a : Int) > 999999) = true := by simp; omega
                    have dn2 : decide (999999 < a) = true := by simp; omega
                    have Hnone := Lib.hid (hN.out.bad Hex.out (.inr (.inl h9)))
                    obtain ⟨⟨x0x, x1x, x2x, x3x⟩, f0x, f1x, f2x, f3x⟩ := BoxN.st4 bx
                    go_wp2_with fail
                    go_quiet (fail)
                    replace bt := bt.drewN nq
                    replace br := br.drewN nq
                    replace bx := bx.drewN nq
                    replace ho := ho.below0 (belowD (Below.refl _ _) nq)
                    replace hF := hF.drewN nq
                    clear x0x x1x x2x x3x f0x f1x f2x f3x
                    generalize wr.drewN nq = w3 at *
                    obtain ⟨⟨x0x, x1x, x2x, x3x⟩, f0x, f1x, f2x, f3x⟩ := BoxN.st4 bx
                    go_wp2_with fail
                    clear x0x x1x x2x x3x f0x f1x f2x f3x
                    have CB := Lib.hid (RBad_is (k := 2) (x := 2) rfl s q e A n c w3)
                    obtain ⟨e6, he6⟩ : ∃ x, (if e = 0 then 2 else e) = x := ⟨_, rfl⟩
                    rw [he6] at CB
                    have He6 := Lib.hid he6
                    clear he6
                    with_reducible refine CB.out.mono ?_
                    rintro r w6 ⟨rfl, hb6⟩
                    clear CB
                    replace bt := bt.all hb6
                    replace br := br.all hb6
                    replace bx := bx.all hb6
                    replace ho := ho.below0 hb6
                    replace hF := hF.trans (PsF.of_below hb6 _)
                    clear hb6
                    obtain ⟨⟨x0r, x1r, x2r, x3r⟩, f0r, f1r, f2r, f3r⟩ := BoxN.stZ br
                    go_wp2_with fail
                    clear x0r x1r x2r x3r f0r f1r f2r f3r
                    replace ho := ho.put4 br st_ne_node (.string s) (.int .i64 (q : Nat)) (.slice A n c) (.int .i64 (e6 : Nat))
                    replace bt := bt.far4 (g := w.heap.size + 1) (by omega) (.string s) (.int .i64 (q : Nat)) (.slice A n c) (.int .i64 (e6 : Nat))
                    replace bx := bx.far4 (g := w.heap.size + 1) (by omega) (.string s) (.int .i64 (q : Nat)) (.slice A n c) (.int .i64 (e6 : Nat))
                    replace br := br.put4 rfl s q A n c e6
                    replace hF := hF.put4 (g := w.heap.size + 1) lr_ (.string s) (.int .i64 (q : Nat)) (.slice A n c) (.int .i64 (e6 : Nat))
                    generalize (((((w6).setCell ⟨w.heap.size + 1, 0, none⟩ (.string s)).setCell ⟨w.heap.size + 1, 1, none⟩ (.int .i64 (q : Nat))).setCell ⟨w.heap.size + 1, 2, none⟩ (.slice A n c)).setCell ⟨w.heap.size + 1, 3, none⟩ (.int .i64 (e6 : Nat))) = w6s at *
                    refine bodyPost_ret (resRowTmp rfl _ _ (w.heap.size + 1) 57 (svA s q A n c e6) (0, 0) _ rfl br Tryz.underlying57 rfl (by kernel_rfl)) rfl ?_
                    obtain ⟨g, rfl⟩ : ∃ g, f = g + 1 := ⟨f - 1, by have := hfu Hx.out.1; omega⟩
                    exact ⟨q, A, n, c, e6, 0, o, rfl, hqs, ho, hn, hF, psR_at0 (fun h => absurd Hx.out.1 h) (fun h => by
                      have := He6.out
                      rw [if_pos h] at this
                      rw [pValue_num Hx.out.2.2 Hp1.out, Hnone.out]
                      exact ⟨this.symm, by decide⟩)⟩
                  have dn : decide ((a : Int) > 999999) = false := by simp; omega
                  have dn2 : decide (999999 < a) = false := by simp; omega
                  by_cases hit : Lib.itoa (a : Int) = (s.extract p1 q).data.toList
                  · have CT := Lib.hid (fun V => (RDig_any V a (by omega)))
                    rw [bytes_eq hit] at CT
                    have Hgood := Lib.hid (hN.out.good Hex.out (by omega) hit)
                    clear hit
                    obtain ⟨⟨x0x, x1x, x2x, x3x⟩, f0x, f1x, f2x, f3x⟩ := BoxN.st4 bx
                    go_wp2_with fail
                    go_quiet (with_reducible exact quiet1 (CT.out _))
                    replace bt := bt.drewN nq
                    replace br := br.drewN nq
                    replace bx := bx.drewN nq
                    replace ho := ho.below0 (belowD (Below.refl _ _) nq)
                    replace hF := hF.drewN nq
                    clear x0x x1x x2x x3x f0x f1x f2x f3x
                    generalize wr.drewN nq = w3 at *
                    obtain ⟨⟨x0x, x1x, x2x, x3x⟩, f0x, f1x, f2x, f3x⟩ := BoxN.st4 bx
                    go_wp2_with fail
                    replace hp := hqs
                    clear x0x x1x x2x x3x f0x f1x f2x f3x
                    have CD := Lib.hid (RMade_any (w := w3) (p := q) (e := e) hs hp ho hn (0) (a) (0) (0) (0))
                    with_reducible refine CD.out.mono ?_
                    rintro r w5 ⟨A5, n5, c5, e5, o5, rfl, ho5, hn5, hf5, hd5⟩
                    clear CD
                    replace bt := hf5.st ho bt
                    replace br := hf5.st ho br
                    replace bx := hf5.st ho bx
                    replace hF := hF.trans hf5
                    clear ho hn hf5
                    have ho := ho5
                    have hn := hn5
                    clear ho5 hn5
                    obtain ⟨⟨x0x, x1x, x2x, x3x⟩, f0x, f1x, f2x, f3x⟩ := BoxN.st4 bx
                    go_wp2_with fail
                    clear x0x x1x x2x x3x f0x f1x f2x f3x
                    replace ho := ho.put4 bx st_ne_node (.string s) (.int .i64 (q : Nat)) (.slice A5 n5 c5) (.int .i64 (e5 : Nat))
                    replace bt := bt.far4 (g := yx) (by omega) (.string s) (.int .i64 (q : Nat)) (.slice A5 n5 c5) (.int .i64 (e5 : Nat))
                    replace br := br.far4 (g := yx) (by omega) (.string s) (.int .i64 (q : Nat)) (.slice A5 n5 c5) (.int .i64 (e5 : Nat))
                    replace bx := bx.put4 rfl s q A5 n5 c5 e5
                    replace hF := hF.put4 (g := yx) lx_ (.string s) (.int .i64 (q : Nat)) (.slice A5 n5 c5) (.int .i64 (e5 : Nat))
                    generalize (((((w5).setCell ⟨yx, 0, none⟩ (.string s)).setCell ⟨yx, 1, none⟩ (.int .i64 (q : Nat))).setCell ⟨yx, 2, none⟩ (.slice A5 n5 c5)).setCell ⟨yx, 3, none⟩ (.int .i64 (e5 : Nat))) = w5s at *
                    obtain ⟨⟨x0x, x1x, x2x, x3x⟩, f0x, f1x, f2x, f3x⟩ := BoxN.st4 bx
                    obtain ⟨⟨x0r, x1r, x2r, x3r⟩, f0r, f1r, f2r, f3r⟩ := BoxN.stZ br
                    have hni : (n5 : Int) ≤ 80 := by omega
                    go_wp2_with fail
                    go_region
                    go_wp2_with fail
                    clear x0r x1r x2r x3r f0r f1r f2r f3r
                    clear x0x x1x x2x x3x f0x f1x f2x f3x
                    replace ho := ho.put4 br st_ne_node (.string s) (.int .i64 (q : Nat)) (.slice A5 n5 c5) (.int .i64 (e5 : Nat))
                    replace bt := bt.far4 (g := w.heap.size + 1) (by omega) (.string s) (.int .i64 (q : Nat)) (.slice A5 n5 c5) (.int .i64 (e5 : Nat))
                    replace bx := bx.far4 (g := w.heap.size + 1) (by omega) (.string s) (.int .i64 (q : Nat)) (.slice A5 n5 c5) (.int .i64 (e5 : Nat))
                    replace br := br.put4 rfl s q A5 n5 c5 e5
                    replace hF := hF.put4 (g := w.heap.size + 1) lr_ (.string s) (.int .i64 (q : Nat)) (.slice A5 n5 c5) (.int .i64 (e5 : Nat))
                    generalize (((((w5s).setCell ⟨w.heap.size + 1, 0, none⟩ (.string s)).setCell ⟨w.heap.size + 1, 1, none⟩ (.int .i64 (q : Nat))).setCell ⟨w.heap.size + 1, 2, none⟩ (.slice A5 n5 c5)).setCell ⟨w.heap.size + 1, 3, none⟩ (.int .i64 (e5 : Nat))) = w5ss at *
                    refine bodyPost_ret (resRowTmp rfl _ _ (w.heap.size + 1) 57 (svA s q A5 n5 c5 e5) (0, 0) _ rfl br Tryz.underlying57 rfl (by kernel_rfl)) rfl ?_
                    obtain ⟨g, rfl⟩ : ∃ g, f = g + 1 := ⟨f - 1, by have := hfu Hx.out.1; omega⟩
                    exact ⟨q, A5, n5, c5, e5, _, o5, rfl, hp, ho, hn, ⟨⟨hF.keep.os, hF.keep.tape, hF.keep.output, hF.keep.size, hF.keep.block⟩, hF.blk⟩, psR_at0 (fun h => absurd Hx.out.1 h) (fun h => by
                      rw [pValue_num Hx.out.2.2 Hp1.out, Hgood.out.1]
                      show PsR s (mk5 _ _ _ _ _ _ _) _ _ _ _
                      rw [Hgood.out.2]
                      exact psR_mk5 hl4 hd5.2 h)⟩
                  have Hnone := Lib.hid (hN.out.bad Hex.out (.inr (.inr hit)))
                  have CT := Lib.hid (fun V => (RDig_any V a (by omega)))
                  obtain ⟨tx, htx⟩ : ∃ tx, (⟨(Lib.itoa (a : Int)).toArray⟩ : ByteArray) = tx := ⟨_, rfl⟩
                  rw [htx] at CT
                  obtain ⟨dg, hdg⟩ : ∃ dg, s.extract p1 q = dg := ⟨_, rfl⟩
                  have hne : ¬ tx = dg := fun h => hit (by have := congrArg (fun z : ByteArray => z.data.toList) (htx.trans (h.trans hdg.symm)); simpa using this)
                  have dq1 : (tx.toList == dg.toList) = false := by
                    rw [beq_eq_false_iff_ne]
                    intro h
                    rw [Lib.toList_data, Lib.toList_data] at h
                    exact hne (ByteArray.ext (Array.toList_inj.1 h))
                  have dq2 : decide (tx = dg) = false := decide_eq_false hne
                  subst hdg
                  clear hit hne htx
                  obtain ⟨⟨x0x, x1x, x2x, x3x⟩, f0x, f1x, f2x, f3x⟩ := BoxN.st4 bx
                  go_wp2_with fail
                  go_quiet (with_reducible exact quiet1 (CT.out _))
                  replace bt := bt.drewN nq
                  replace br := br.drewN nq
                  replace bx := bx.drewN nq
                  replace ho := ho.below0 (belowD (Below.refl _ _) nq)
                  replace hF := hF.drewN nq
                  clear x0x x1x x2x x3x f0x f1x f2x f3x
                  generalize wr.drewN nq = w3 at *
                  obtain ⟨⟨x0x, x1x, x2x, x3x⟩, f0x, f1x, f2x, f3x⟩ := BoxN.st4 bx
                  go_wp2_with fail
                  clear x0x x1x x2x x3x f0x f1x f2x f3x
                  have CB := Lib.hid (RBad_is (k := 2) (x := 2) rfl s q e A n c w3)
                  obtain ⟨e6, he6⟩ : ∃ x, (if e = 0 then 2 else e) = x := ⟨_, rfl⟩
                  rw [he6] at CB
                  have He6 := Lib.hid he6
                  clear he6
                  with_reducible refine CB.out.mono ?_
                  rintro r w6 ⟨rfl, hb6⟩
                  clear CB
                  replace bt := bt.all hb6
                  replace br := br.all hb6
                  replace bx := bx.all hb6
                  replace ho := ho.below0 hb6
                  replace hF := hF.trans (PsF.of_below hb6 _)
                  clear hb6
                  obtain ⟨⟨x0r, x1r, x2r, x3r⟩, f0r, f1r, f2r, f3r⟩ := BoxN.stZ br
                  go_wp2_with fail
                  clear x0r x1r x2r x3r f0r f1r f2r f3r
                  replace ho := ho.put4 br st_ne_node (.string s) (.int .i64 (q : Nat)) (.slice A n c) (.int .i64 (e6 : Nat))
                  replace bt := bt.far4 (g := w.heap.size + 1) (by omega) (.string s) (.int .i64 (q : Nat)) (.slice A n c) (.int .i64 (e6 : Nat))
                  replace bx := bx.far4 (g := w.heap.size + 1) (by omega) (.string s) (.int .i64 (q : Nat)) (.slice A n c) (.int .i64 (e6 : Nat))
                  replace br := br.put4 rfl s q A n c e6
                  replace hF := hF.put4 (g := w.heap.size + 1) lr_ (.string s) (.int .i64 (q : Nat)) (.slice A n c) (.int .i64 (e6 : Nat))
                  generalize (((((w6).setCell ⟨w.heap.size + 1, 0, none⟩ (.string s)).setCell ⟨w.heap.size + 1, 1, none⟩ (.int .i64 (q : Nat))).setCell ⟨w.heap.size + 1, 2, none⟩ (.slice A n c)).setCell ⟨w.heap.size + 1, 3, none⟩ (.int .i64 (e6 : Nat))) = w6s at *
                  refine bodyPost_ret (resRowTmp rfl _ _ (w.heap.size + 1) 57 (svA s q A n c e6) (0, 0) _ rfl br Tryz.underlying57 rfl (by kernel_rfl)) rfl ?_
                  obtain ⟨g, rfl⟩ : ∃ g, f = g + 1 := ⟨f - 1, by have := hfu Hx.out.1; omega⟩
                  exact ⟨q, A, n, c, e6, 0, o, rfl, hqs, ho, hn, hF, psR_at0 (fun h => absurd Hx.out.1 h) (fun h => by
                    have := He6.out
                    rw [if_pos h] at this
                    rw [pValue_num Hx.out.2.2 Hp1.out, Hnone.out]
                    exact ⟨this.symm, by decide⟩)⟩
              · have c3 : decide ((s[q].toNat : Int) ≤ 57) = false := by simp; omega
                have c4 : decide (s[q].toNat ≤ 57) = false := by simp; omega
                have Hex := Lib.hid (show d = 7 ∨ NoDig ((s.data.toList.drop p1).drop d) from .inr (noDig_at hq1 (fun hl h => h57 h.2)))
                have hi0 : (0 : Int) ≤ (p1 : Int) := by omega
                have hi1 : (p1 : Int) ≤ (q : Int) := by omega
                have hi2 : (q : Int) ≤ (s.size : Int) := by omega
                by_cases h0 : d = 0
                · have dz : ((q : Int) == (p1 : Int)) = true := by simp; omega
                  have Hnone := Lib.hid (hN.out.bad Hex.out (.inl h0))
                  obtain ⟨⟨x0x, x1x, x2x, x3x⟩, f0x, f1x, f2x, f3x⟩ := BoxN.st4 bx
                  go_wp2_with fail
                  go_quiet (fail)
                  replace bt := bt.drewN nq
                  replace br := br.drewN nq
                  replace bx := bx.drewN nq
                  replace ho := ho.below0 (belowD (Below.refl _ _) nq)
                  replace hF := hF.drewN nq
                  clear x0x x1x x2x x3x f0x f1x f2x f3x
                  generalize wr.drewN nq = w3 at *
                  obtain ⟨⟨x0x, x1x, x2x, x3x⟩, f0x, f1x, f2x, f3x⟩ := BoxN.st4 bx
                  go_wp2_with fail
                  clear x0x x1x x2x x3x f0x f1x f2x f3x
                  have CB := Lib.hid (RBad_is (k := 2) (x := 2) rfl s q e A n c w3)
                  obtain ⟨e6, he6⟩ : ∃ x, (if e = 0 then 2 else e) = x := ⟨_, rfl⟩
                  rw [he6] at CB
                  have He6 := Lib.hid he6
                  clear he6
                  with_reducible refine CB.out.mono ?_
                  rintro r w6 ⟨rfl, hb6⟩
                  clear CB
                  replace bt := bt.all hb6
                  replace br := br.all hb6
                  replace bx := bx.all hb6
                  replace ho := ho.below0 hb6
                  replace hF := hF.trans (PsF.of_below hb6 _)
                  clear hb6
                  obtain ⟨⟨x0r, x1r, x2r, x3r⟩, f0r, f1r, f2r, f3r⟩ := BoxN.stZ br
                  go_wp2_with fail
                  clear x0r x1r x2r x3r f0r f1r f2r f3r
                  replace ho := ho.put4 br st_ne_node (.string s) (.int .i64 (q : Nat)) (.slice A n c) (.int .i64 (e6 : Nat))
                  replace bt := bt.far4 (g := w.heap.size + 1) (by omega) (.string s) (.int .i64 (q : Nat)) (.slice A n c) (.int .i64 (e6 : Nat))
                  replace bx := bx.far4 (g := w.heap.size + 1) (by omega) (.string s) (.int .i64 (q : Nat)) (.slice A n c) (.int .i64 (e6 : Nat))
                  replace br := br.put4 rfl s q A n c e6
                  replace hF := hF.put4 (g := w.heap.size + 1) lr_ (.string s) (.int .i64 (q : Nat)) (.slice A n c) (.int .i64 (e6 : Nat))
                  generalize (((((w6).setCell ⟨w.heap.size + 1, 0, none⟩ (.string s)).setCell ⟨w.heap.size + 1, 1, none⟩ (.int .i64 (q : Nat))).setCell ⟨w.heap.size + 1, 2, none⟩ (.slice A n c)).setCell ⟨w.heap.size + 1, 3, none⟩ (.int .i64 (e6 : Nat))) = w6s at *
                  refine bodyPost_ret (resRowTmp rfl _ _ (w.heap.size + 1) 57 (svA s q A n c e6) (0, 0) _ rfl br Tryz.underlying57 rfl (by kernel_rfl)) rfl ?_
                  obtain ⟨g, rfl⟩ : ∃ g, f = g + 1 := ⟨f - 1, by have := hfu Hx.out.1; omega⟩
                  exact ⟨q, A, n, c, e6, 0, o, rfl, hqs, ho, hn, hF, psR_at0 (fun h => absurd Hx.out.1 h) (fun h => by
                    have := He6.out
                    rw [if_pos h] at this
                    rw [pValue_num Hx.out.2.2 Hp1.out, Hnone.out]
                    exact ⟨this.symm, by decide⟩)⟩
                have dz : ((q : Int) == (p1 : Int)) = false := by simp; omega
                by_cases h9 : 999999 < a
                · have dn : decide ((a : Int) > 999999) = true := by simp; omega
                  have dn2 : decide (999999 < a) = true := by simp; omega
                  have Hnone := Lib.hid (hN.out.bad Hex.out (.inr (.inl h9)))
                  obtain ⟨⟨x0x, x1x, x2x, x3x⟩, f0x, f1x, f2x, f3x⟩ := BoxN.st4 bx
                  go_wp2_with fail
                  go_quiet (fail)
                  replace bt := bt.drewN nq
                  replace br := br.drewN nq
                  replace bx := bx.drewN nq
                  replace ho := ho.below0 (belowD (Below.refl _ _) nq)
                  replace hF := hF.drewN nq
                  clear x0x x1x x2x x3x f0x f1x f2x f3x
                  generalize wr.drewN nq = w3 at *
                  obtain ⟨⟨x0x, x1x, x2x, x3x⟩, f0x, f1x, f2x, f3x⟩ := BoxN.st4 bx
                  go_wp2_with fail
                  clear x0x x1x x2x x3x f0x f1x f2x f3x
                  have CB := Lib.hid (RBad_is (k := 2) (x := 2) rfl s q e A n c w3)
                  obtain ⟨e6, he6⟩ : ∃ x, (if e = 0 then 2 else e) = x := ⟨_, rfl⟩
                  rw [he6] at CB
                  have He6 := Lib.hid he6
                  clear he6
                  with_reducible refine CB.out.mono ?_
                  rintro r w6 ⟨rfl, hb6⟩
                  clear CB
                  replace bt := bt.all hb6
                  replace br := br.all hb6
                  replace bx := bx.all hb6
                  replace ho := ho.below0 hb6
                  replace hF := hF.trans (PsF.of_below hb6 _)
                  clear hb6
                  obtain ⟨⟨x0r, x1r, x2r, x3r⟩, f0r, f1r, f2r, f3r⟩ := BoxN.stZ br
                  go_wp2_with fail
                  clear x0r x1r x2r x3r f0r f1r f2r f3r
                  replace ho := ho.put4 br st_ne_node (.string s) (.int .i64 (q : Nat)) (.slice A n c) (.int .i64 (e6 : Nat))
                  replace bt := bt.far4 (g := w.heap.size + 1) (by omega) (.string s) (.int .i64 (q : Nat)) (.slice A n c) (.int .i64 (e6 : Nat))
                  replace bx := bx.far4 (g := w.heap.size + 1) (by omega) (.string s) (.int .i64 (q : Nat)) (.slice A n c) (.int .i64 (e6 : Nat))
                  replace br := br.put4 rfl s q A n c e6
                  replace hF := hF.put4 (g := w.heap.size + 1) lr_ (.string s) (.int .i64 (q : Nat)) (.slice A n c) (.int .i64 (e6 : Nat))
                  generalize (((((w6).setCell ⟨w.heap.size + 1, 0, none⟩ (.string s)).setCell ⟨w.heap.size + 1, 1, none⟩ (.int .i64 (q : Nat))).setCell ⟨w.heap.size + 1, 2, none⟩ (.slice A n c)).setCell ⟨w.heap.size + 1, 3, none⟩ (.int .i64 (e6 : Nat))) = w6s at *
                  refine bodyPost_ret (resRowTmp rfl _ _ (w.heap.size + 1) 57 (svA s q A n c e6) (0, 0) _ rfl br Tryz.underlying57 rfl (by kernel_rfl)) rfl ?_
                  obtain ⟨g, rfl⟩ : ∃ g, f = g + 1 := ⟨f - 1, by have := hfu Hx.out.1; omega⟩
                  exact ⟨q, A, n, c, e6, 0, o, rfl, hqs, ho, hn, hF, psR_at0 (fun h => absurd Hx.out.1 h) (fun h => by
                    have := He6.out
                    rw [if_pos h] at this
                    rw [pValue_num Hx.out.2.2 Hp1.out, Hnone.out]
                    exact ⟨this.symm, by decide⟩)⟩
                have dn : decide ((a : Int) > 999999) = false := by simp; omega
                have dn2 : decide (999999 < a) = false := by simp; omega
                by_cases hit : Lib.itoa (a : Int) = (s.extract p1 q).data.toList
                · have CT := Lib.hid (fun V => (RDig_any V a (by omega)))
                  rw [bytes_eq hit] at CT
                  have Hgood := Lib.hid (hN.out.good Hex.out (by omega) hit)
                  clear hit
                  obtain ⟨⟨x0x, x1x, x2x, x3x⟩, f0x, f1x, f2x, f3x⟩ := BoxN.st4 bx
                  go_wp2_with fail
                  go_quiet (with_reducible exact quiet1 (CT.out _))
                  replace bt := bt.drewN nq
                  replace br := br.drewN nq
                  replace bx := bx.drewN nq
                  replace ho := ho.below0 (belowD (Below.refl _ _) nq)
                  replace hF := hF.drewN nq
                  clear x0x x1x x2x x3x f0x f1x f2x f3x
                  generalize wr.drewN nq = w3 at *
                  obtain ⟨⟨x0x, x1x, x2x, x3x⟩, f0x, f1x, f2x, f3x⟩ := BoxN.st4 bx
                  go_wp2_with fail
                  replace hp := hqs
                  clear x0x x1x x2x x3x f0x f1x f2x f3x
                  have CD := Lib.hid (RMade_any (w := w3) (p := q) (e := e) hs hp ho hn (0) (a) (0) (0) (0))
                  with_reducible refine CD.out.mono ?_
                  rintro r w5 ⟨A5, n5, c5, e5, o5, rfl, ho5, hn5, hf5, hd5⟩
                  clear CD
                  replace bt := hf5.st ho bt
                  replace br := hf5.st ho br
                  replace bx := hf5.st ho bx
                  replace hF := hF.trans hf5
                  clear ho hn hf5
                  have ho := ho5
                  have hn := hn5
                  clear ho5 hn5
                  obtain ⟨⟨x0x, x1x, x2x, x3x⟩, f0x, f1x, f2x, f3x⟩ := BoxN.st4 bx
                  go_wp2_with fail
                  clear x0x x1x x2x x3x f0x f1x f2x f3x
                  replace ho := ho.put4 bx st_ne_node (.string s) (.int .i64 (q : Nat)) (.slice A5 n5 c5) (.int .i64 (e5 : Nat))
                  replace bt := bt.far4 (g := yx) (by omega) (.string s) (.int .i64 (q : Nat)) (.slice A5 n5 c5) (.int .i64 (e5 : Nat))
                  replace br := br.far4 (g := yx) (by omega) (.string s) (.int .i64 (q : Nat)) (.slice A5 n5 c5) (.int .i64 (e5 : Nat))
                  replace bx := bx.put4 rfl s q A5 n5 c5 e5
                  replace hF := hF.put4 (g := yx) lx_ (.string s) (.int .i64 (q : Nat)) (.slice A5 n5 c5) (.int .i64 (e5 : Nat))
                  generalize (((((w5).setCell ⟨yx, 0, none⟩ (.string s)).setCell ⟨yx, 1, none⟩ (.int .i64 (q : Nat))).setCell ⟨yx, 2, none⟩ (.slice A5 n5 c5)).setCell ⟨yx, 3, none⟩ (.int .i64 (e5 : Nat))) = w5s at *
                  obtain ⟨⟨x0x, x1x, x2x, x3x⟩, f0x, f1x, f2x, f3x⟩ := BoxN.st4 bx
                  obtain ⟨⟨x0r, x1r, x2r, x3r⟩, f0r, f1r, f2r, f3r⟩ := BoxN.stZ br
                  have hni : (n5 : Int) ≤ 80 := by omega
                  go_wp2_with fail
                  go_region
                  go_wp2_with fail
                  clear x0r x1r x2r x3r f0r f1r f2r f3r
                  clear x0x x1x x2x x3x f0x f1x f2x f3x
                  replace ho := ho.put4 br st_ne_node (.string s) (.int .i64 (q : Nat)) (.slice A5 n5 c5) (.int .i64 (e5 : Nat))
                  replace bt := bt.far4 (g := w.heap.size + 1) (by omega) (.string s) (.int .i64 (q : Nat)) (.slice A5 n5 c5) (.int .i64 (e5 : Nat))
                  replace bx := bx.far4 (g := w.heap.size + 1) (by omega) (.string s) (.int .i64 (q : Nat)) (.slice A5 n5 c5) (.int .i64 (e5 : Nat))
                  replace br := br.put4 rfl s q A5 n5 c5 e5
                  replace hF := hF.put4 (g := w.heap.size + 1) lr_ (.string s) (.int .i64 (q : Nat)) (.slice A5 n5 c5) (.int .i64 (e5 : Nat))
                  generalize (((((w5s).setCell ⟨w.heap.size + 1, 0, none⟩ (.string s)).setCell ⟨w.heap.size + 1, 1, none⟩ (.int .i64 (q : Nat))).setCell ⟨w.heap.size + 1, 2, none⟩ (.slice A5 n5 c5)).setCell ⟨w.heap.size + 1, 3, none⟩ (.int .i64 (e5 : Nat))) = w5ss at *
                  refine bodyPost_ret (resRowTmp rfl _ _ (w.heap.size + 1) 57 (svA s q A5 n5 c5 e5) (0, 0) _ rfl br Tryz.underlying57 rfl (by kernel_rfl)) rfl ?_
                  obtain ⟨g, rfl⟩ : ∃ g, f = g + 1 := ⟨f - 1, by have := hfu Hx.out.1; omega⟩
                  exact ⟨q, A5, n5, c5, e5, _, o5, rfl, hp, ho, hn, ⟨⟨hF.keep.os, hF.keep.tape, hF.keep.output, hF.keep.size, hF.keep.block⟩, hF.blk⟩, psR_at0 (fun h => absurd Hx.out.1 h) (fun h => by
                    rw [pValue_num Hx.out.2.2 Hp1.out, Hgood.out.1]
                    show PsR s (mk5 _ _ _ _ _ _ _) _ _ _ _
                    rw [Hgood.out.2]
                    exact psR_mk5 hl4 hd5.2 h)⟩
                have Hnone := Lib.hid (hN.out.bad Hex.out (.inr (.inr hit)))
                have CT := Lib.hid (fun V => (RDig_any V a (by omega)))
                obtain ⟨tx, htx⟩ : ∃ tx, (⟨(Lib.itoa (a : Int)).toArray⟩ : ByteArray) = tx := ⟨_, rfl⟩
                rw [htx] at CT
                obtain ⟨dg, hdg⟩ : ∃ dg, s.extract p1 q = dg := ⟨_, rfl⟩
                have hne : ¬ tx = dg := fun h => hit (by have := congrArg (fun z : ByteArray => z.data.toList) (htx.trans (h.trans hdg.symm)); simpa using this)
                have dq1 : (tx.toList == dg.toList) = false := by
                  rw [beq_eq_false_iff_ne]
                  intro h
                  rw [Lib.toList_data, Lib.toList_data] at h
                  exact hne (ByteArray.ext (Array.toList_inj.1 h))
                have dq2 : decide (tx = dg) = false := decide_eq_false hne
                subst hdg
                clear hit hne htx
                obtain ⟨⟨x0x, x1x, x2x, x3x⟩, f0x, f1x, f2x, f3x⟩ := BoxN.st4 bx
                go_wp2_with fail
                go_quiet (with_reducible exact quiet1 (CT.out _))
                replace bt := bt.drewN nq
                replace br := br.drewN nq
                replace bx := bx.drewN nq
                replace ho := ho.below0 (belowD (Below.refl _ _) nq)
                replace hF := hF.drewN nq
                clear x0x x1x x2x x3x f0x f1x f2x f3x
                generalize wr.drewN nq = w3 at *
                obtain ⟨⟨x0x, x1x, x2x, x3x⟩, f0x, f1x, f2x, f3x⟩ := BoxN.st4 bx
                go_wp2_with fail
                clear x0x x1x x2x x3x f0x f1x f2x f3x
                have CB := Lib.hid (RBad_is (k := 2) (x := 2) rfl s q e A n c w3)
                obtain ⟨e6, he6⟩ : ∃ x, (if e = 0 then 2 else e) = x := ⟨_, rfl⟩
                rw [he6] at CB
                have He6 := Lib.hid he6
                clear he6
                with_reducible refine CB.out.mono ?_
                rintro r w6 ⟨rfl, hb6⟩
                clear CB
                replace bt := bt.all hb6
                replace br := br.all hb6
                replace bx := bx.all hb6
                replace ho := ho.below0 hb6
                replace hF := hF.trans (PsF.of_below hb6 _)
                clear hb6
                obtain ⟨⟨x0r, x1r, x2r, x3r⟩, f0r, f1r, f2r, f3r⟩ := BoxN.stZ br
                go_wp2_with fail
                clear x0r x1r x2r x3r f0r f1r f2r f3r
                replace ho := ho.put4 br st_ne_node (.string s) (.int .i64 (q : Nat)) (.slice A n c) (.int .i64 (e6 : Nat))
                replace bt := bt.far4 (g := w.heap.size + 1) (by omega) (.string s) (.int .i64 (q : Nat)) (.slice A n c) (.int .i64 (e6 : Nat))
                replace bx := bx.far4 (g := w.heap.size + 1) (by omega) (.string s) (.int .i64 (q : Nat)) (.slice A n c) (.int .i64 (e6 : Nat))
                replace br := br.put4 rfl s q A n c e6
                replace hF := hF.put4 (g := w.heap.size + 1) lr_ (.string s) (.int .i64 (q : Nat)) (.slice A n c) (.int .i64 (e6 : Nat))
                generalize (((((w6).setCell ⟨w.heap.size + 1, 0, none⟩ (.string s)).setCell ⟨w.heap.size + 1, 1, none⟩ (.int .i64 (q : Nat))).setCell ⟨w.heap.size + 1, 2, none⟩ (.slice A n c)).setCell ⟨w.heap.size + 1, 3, none⟩ (.int .i64 (e6 : Nat))) = w6s at *
                refine bodyPost_ret (resRowTmp rfl _ _ (w.heap.size + 1) 57 (svA s q A n c e6) (0, 0) _ rfl br Tryz.underlying57 rfl (by kernel_rfl)) rfl ?_
                obtain ⟨g, rfl⟩ : ∃ g, f = g + 1 := ⟨f - 1, by have := hfu Hx.out.1; omega⟩
                exact ⟨q, A, n, c, e6, 0, o, rfl, hqs, ho, hn, hF, psR_at0 (fun h => absurd Hx.out.1 h) (fun h => by
                  have := He6.out
                  rw [if_pos h] at this
                  rw [pValue_num Hx.out.2.2 Hp1.out, Hnone.out]
                  exact ⟨this.symm, by decide⟩)⟩
            · have c2 : decide ((s[q].toNat : Int) ≥ 48) = false := by simp; omega
              have c3 : decide (48 ≤ s[q].toNat) = false := by simp; omega
              have Hex := Lib.hid (show d = 7 ∨ NoDig ((s.data.toList.drop p1).drop d) from .inr (noDig_at hq1 (fun hl h => h48 h.1)))
              have hi0 : (0 : Int) ≤ (p1 : Int) := by omega
              have hi1 : (p1 : Int) ≤ (q : Int) := by omega
              have hi2 : (q : Int) ≤ (s.size : Int) := by omega
              by_cases h0 : d = 0
              · have dz : ((q : Int) == (p1 : Int)) = true := by simp; omega
                have Hnone := Lib.hid (hN.out.bad Hex.out (.inl h0))
                obtain ⟨⟨x0x, x1x, x2x, x3x⟩, f0x, f1x, f2x, f3x⟩ := BoxN.st4 bx
                go_wp2_with fail
                go_quiet (fail)
                replace bt := bt.drewN nq
                replace br := br.drewN nq
                replace bx := bx.drewN nq
                replace ho := ho.below0 (belowD (Below.refl _ _) nq)
                replace hF := hF.drewN nq
                clear x0x x1x x2x x3x f0x f1x f2x f3x
                generalize wr.drewN nq = w3 at *
                obtain ⟨⟨x0x, x1x, x2x, x3x⟩, f0x, f1x, f2x, f3x⟩ := BoxN.st4 bx
                go_wp2_with fail
                clear x0x x1x x2x x3x f0x f1x f2x f3x
                have CB := Lib.hid (RBad_is (k := 2) (x := 2) rfl s q e A n c w3)
                obtain ⟨e6, he6⟩ : ∃ x, (if e = 0 then 2 else e) = x := ⟨_, rfl⟩
                rw [he6] at CB
                have He6 := Lib.hid he6
                clear he6
                with_reducible refine CB.out.mono ?_
                rintro r w6 ⟨rfl, hb6⟩
                clear CB
                replace bt := bt.all hb6
                replace br := br.all hb6
                replace bx := bx.all hb6
                replace ho := ho.below0 hb6
                replace hF := hF.trans (PsF.of_below hb6 _)
                clear hb6
                obtain ⟨⟨x0r, x1r, x2r, x3r⟩, f0r, f1r, f2r, f3r⟩ := BoxN.stZ br
                go_wp2_with fail
                clear x0r x1r x2r x3r f0r f1r f2r f3r
                replace ho := ho.put4 br st_ne_node (.string s) (.int .i64 (q : Nat)) (.slice A n c) (.int .i64 (e6 : Nat))
                replace bt := bt.far4 (g := w.heap.size + 1) (by omega) (.string s) (.int .i64 (q : Nat)) (.slice A n c) (.int .i64 (e6 : Nat))
                replace bx := bx.far4 (g := w.heap.size + 1) (by omega) (.string s) (.int .i64 (q : Nat)) (.slice A n c) (.int .i64 (e6 : Nat))
                replace br := br.put4 rfl s q A n c e6
                replace hF := hF.put4 (g := w.heap.size + 1) lr_ (.string s) (.int .i64 (q : Nat)) (.slice A n c) (.int .i64 (e6 : Nat))
                generalize (((((w6).setCell ⟨w.heap.size + 1, 0, none⟩ (.string s)).setCell ⟨w.heap.size + 1, 1, none⟩ (.int .i64 (q : Nat))).setCell ⟨w.heap.size + 1, 2, none⟩ (.slice A n c)).setCell ⟨w.heap.size + 1, 3, none⟩ (.int .i64 (e6 : Nat))) = w6s at *
                refine bodyPost_ret (resRowTmp rfl _ _ (w.heap.size + 1) 57 (svA s q A n c e6) (0, 0) _ rfl br Tryz.underlying57 rfl (by kernel_rfl)) rfl ?_
                obtain ⟨g, rfl⟩ : ∃ g, f = g + 1 := ⟨f - 1, by have := hfu Hx.out.1; omega⟩
                exact ⟨q, A, n, c, e6, 0, o, rfl, hqs, ho, hn, hF, psR_at0 (fun h => absurd Hx.out.1 h) (fun h => by
                  have := He6.out
                  rw [if_pos h] at this
                  rw [pValue_num Hx.out.2.2 Hp1.out, Hnone.out]
                  exact ⟨this.symm, by decide⟩)⟩
              have dz : ((q : Int) == (p1 : Int)) = false := by simp; omega
              by_cases h9 : 999999 < a
              · have dn : decide ((a : Int) > 999999) = true := by simp; omega
                have dn2 : decide (999999 < a) = true := by simp; omega
                have Hnone := Lib.hid (hN.out.bad Hex.out (.inr (.inl h9)))
                obtain ⟨⟨x0x, x1x, x2x, x3x⟩, f0x, f1x, f2x, f3x⟩ := BoxN.st4 bx
                go_wp2_with fail
                go_quiet (fail)
                replace bt := bt.drewN nq
                replace br := br.drewN nq
                replace bx := bx.drewN nq
                replace ho := ho.below0 (belowD (Below.refl _ _) nq)
                replace hF := hF.drewN nq
                clear x0x x1x x2x x3x f0x f1x f2x f3x
                generalize wr.drewN nq = w3 at *
                obtain ⟨⟨x0x, x1x, x2x, x3x⟩, f0x, f1x, f2x, f3x⟩ := BoxN.st4 bx
                go_wp2_with fail
                clear x0x x1x x2x x3x f0x f1x f2x f3x
                have CB := Lib.hid (RBad_is (k := 2) (x := 2) rfl s q e A n c w3)
                obtain ⟨e6, he6⟩ : ∃ x, (if e = 0 then 2 else e) = x := ⟨_, rfl⟩
                rw [he6] at CB
                have He6 := Lib.hid he6
                clear he6
                with_reducible refine CB.out.mono ?_
                rintro r w6 ⟨rfl, hb6⟩
                clear CB
                replace bt := bt.all hb6
                replace br := br.all hb6
                replace bx := bx.all hb6
                replace ho := ho.below0 hb6
                replace hF := hF.trans (PsF.of_below hb6 _)
                clear hb6
                obtain ⟨⟨x0r, x1r, x2r, x3r⟩, f0r, f1r, f2r, f3r⟩ := BoxN.stZ br
                go_wp2_with fail
                clear x0r x1r x2r x3r f0r f1r f2r f3r
                replace ho := ho.put4 br st_ne_node (.string s) (.int .i64 (q : Nat)) (.slice A n c) (.int .i64 (e6 : Nat))
                replace bt := bt.far4 (g := w.heap.size + 1) (by omega) (.string s) (.int .i64 (q : Nat)) (.slice A n c) (.int .i64 (e6 : Nat))
                replace bx := bx.far4 (g := w.heap.size + 1) (by omega) (.string s) (.int .i64 (q : Nat)) (.slice A n c) (.int .i64 (e6 : Nat))
                replace br := br.put4 rfl s q A n c e6
                replace hF := hF.put4 (g := w.heap.size + 1) lr_ (.string s) (.int .i64 (q : Nat)) (.slice A n c) (.int .i64 (e6 : Nat))
                generalize (((((w6).setCell ⟨w.heap.size + 1, 0, none⟩ (.string s)).setCell ⟨w.heap.size + 1, 1, none⟩ (.int .i64 (q : Nat))).setCell ⟨w.heap.size + 1, 2, none⟩ (.slice A n c)).setCell ⟨w.heap.size + 1, 3, none⟩ (.int .i64 (e6 : Nat))) = w6s at *
                refine bodyPost_ret (resRowTmp rfl _ _ (w.heap.size + 1) 57 (svA s q A n c e6) (0, 0) _ rfl br Tryz.underlying57 rfl (by kernel_rfl)) rfl ?_
                obtain ⟨g, rfl⟩ : ∃ g, f = g + 1 := ⟨f - 1, by have := hfu Hx.out.1; omega⟩
                exact ⟨q, A, n, c, e6, 0, o, rfl, hqs, ho, hn, hF, psR_at0 (fun h => absurd Hx.out.1 h) (fun h => by
                  have := He6.out
                  rw [if_pos h] at this
                  rw [pValue_num Hx.out.2.2 Hp1.out, Hnone.out]
                  exact ⟨this.symm, by decide⟩)⟩
              have dn : decide ((a : Int) > 999999) = false := by simp; omega
              have dn2 : decide (999999 < a) = false := by simp; omega
              by_cases hit : Lib.itoa (a : Int) = (s.extract p1 q).data.toList
              · have CT := Lib.hid (fun V => (RDig_any V a (by omega)))
                rw [bytes_eq hit] at CT
                have Hgood := Lib.hid (hN.out.good Hex.out (by omega) hit)
                clear hit
                obtain ⟨⟨x0x, x1x, x2x, x3x⟩, f0x, f1x, f2x, f3x⟩ := BoxN.st4 bx
                go_wp2_with fail
                go_quiet (with_reducible exact quiet1 (CT.out _))
                replace bt := bt.drewN nq
                replace br := br.drewN nq
                replace bx := bx.drewN nq
                replace ho := ho.below0 (belowD (Below.refl _ _) nq)
                replace hF := hF.drewN nq
                clear x0x x1x x2x x3x f0x f1x f2x f3x
                generalize wr.drewN nq = w3 at *
                obtain ⟨⟨x0x, x1x, x2x, x3x⟩, f0x, f1x, f2x, f3x⟩ := BoxN.st4 bx
                go_wp2_with fail
                replace hp := hqs
                clear x0x x1x x2x x3x f0x f1x f2x f3x
                have CD := Lib.hid (RMade_any (w := w3) (p := q) (e := e) hs hp ho hn (0) (a) (0) (0) (0))
                with_reducible refine CD.out.mono ?_
                rintro r w5 ⟨A5, n5, c5, e5, o5, rfl, ho5, hn5, hf5, hd5⟩
                clear CD
                replace bt := hf5.st ho bt
                replace br := hf5.st ho br
                replace bx := hf5.st ho bx
                replace hF := hF.trans hf5
                clear ho hn hf5
                have ho := ho5
                have hn := hn5
                clear ho5 hn5
                obtain ⟨⟨x0x, x1x, x2x, x3x⟩, f0x, f1x, f2x, f3x⟩ := BoxN.st4 bx
                go_wp2_with fail
                clear x0x x1x x2x x3x f0x f1x f2x f3x
                replace ho := ho.put4 bx st_ne_node (.string s) (.int .i64 (q : Nat)) (.slice A5 n5 c5) (.int .i64 (e5 : Nat))
                replace bt := bt.far4 (g := yx) (by omega) (.string s) (.int .i64 (q : Nat)) (.slice A5 n5 c5) (.int .i64 (e5 : Nat))
                replace br := br.far4 (g := yx) (by omega) (.string s) (.int .i64 (q : Nat)) (.slice A5 n5 c5) (.int .i64 (e5 : Nat))
                replace bx := bx.put4 rfl s q A5 n5 c5 e5
                replace hF := hF.put4 (g := yx) lx_ (.string s) (.int .i64 (q : Nat)) (.slice A5 n5 c5) (.int .i64 (e5 : Nat))
                generalize (((((w5).setCell ⟨yx, 0, none⟩ (.string s)).setCell ⟨yx, 1, none⟩ (.int .i64 (q : Nat))).setCell ⟨yx, 2, none⟩ (.slice A5 n5 c5)).setCell ⟨yx, 3, none⟩ (.int .i64 (e5 : Nat))) = w5s at *
                obtain ⟨⟨x0x, x1x, x2x, x3x⟩, f0x, f1x, f2x, f3x⟩ := BoxN.st4 bx
                obtain ⟨⟨x0r, x1r, x2r, x3r⟩, f0r, f1r, f2r, f3r⟩ := BoxN.stZ br
                have hni : (n5 : Int) ≤ 80 := by omega
                go_wp2_with fail
                go_region
                go_wp2_with fail
                clear x0r x1r x2r x3r f0r f1r f2r f3r
                clear x0x x1x x2x x3x f0x f1x f2x f3x
                replace ho := ho.put4 br st_ne_node (.string s) (.int .i64 (q : Nat)) (.slice A5 n5 c5) (.int .i64 (e5 : Nat))
                replace bt := bt.far4 (g := w.heap.size + 1) (by omega) (.string s) (.int .i64 (q : Nat)) (.slice A5 n5 c5) (.int .i64 (e5 : Nat))
                replace bx := bx.far4 (g := w.heap.size + 1) (by omega) (.string s) (.int .i64 (q : Nat)) (.slice A5 n5 c5) (.int .i64 (e5 : Nat))
                replace br := br.put4 rfl s q A5 n5 c5 e5
                replace hF := hF.put4 (g := w.heap.size + 1) lr_ (.string s) (.int .i64 (q : Nat)) (.slice A5 n5 c5) (.int .i64 (e5 : Nat))
                generalize (((((w5s).setCell ⟨w.heap.size + 1, 0, none⟩ (.string s)).setCell ⟨w.heap.size + 1, 1, none⟩ (.int .i64 (q : Nat))).setCell ⟨w.heap.size + 1, 2, none⟩ (.slice A5 n5 c5)).setCell ⟨w.heap.size + 1, 3, none⟩ (.int .i64 (e5 : Nat))) = w5ss at *
                refine bodyPost_ret (resRowTmp rfl _ _ (w.heap.size + 1) 57 (svA s q A5 n5 c5 e5) (0, 0) _ rfl br Tryz.underlying57 rfl (by kernel_rfl)) rfl ?_
                obtain ⟨g, rfl⟩ : ∃ g, f = g + 1 := ⟨f - 1, by have := hfu Hx.out.1; omega⟩
                exact ⟨q, A5, n5, c5, e5, _, o5, rfl, hp, ho, hn, ⟨⟨hF.keep.os, hF.keep.tape, hF.keep.output, hF.keep.size, hF.keep.block⟩, hF.blk⟩, psR_at0 (fun h => absurd Hx.out.1 h) (fun h => by
                  rw [pValue_num Hx.out.2.2 Hp1.out, Hgood.out.1]
                  show PsR s (mk5 _ _ _ _ _ _ _) _ _ _ _
                  rw [Hgood.out.2]
                  exact psR_mk5 hl4 hd5.2 h)⟩
              have Hnone := Lib.hid (hN.out.bad Hex.out (.inr (.inr hit)))
              have CT := Lib.hid (fun V => (RDig_any V a (by omega)))
              obtain ⟨tx, htx⟩ : ∃ tx, (⟨(Lib.itoa (a : Int)).toArray⟩ : ByteArray) = tx := ⟨_, rfl⟩
              rw [htx] at CT
              obtain ⟨dg, hdg⟩ : ∃ dg, s.extract p1 q = dg := ⟨_, rfl⟩
              have hne : ¬ tx = dg := fun h => hit (by have := congrArg (fun z : ByteArray => z.data.toList) (htx.trans (h.trans hdg.symm)); simpa using this)
              have dq1 : (tx.toList == dg.toList) = false := by
                rw [beq_eq_false_iff_ne]
                intro h
                rw [Lib.toList_data, Lib.toList_data] at h
                exact hne (ByteArray.ext (Array.toList_inj.1 h))
              have dq2 : decide (tx = dg) = false := decide_eq_false hne
              subst hdg
              clear hit hne htx
              obtain ⟨⟨x0x, x1x, x2x, x3x⟩, f0x, f1x, f2x, f3x⟩ := BoxN.st4 bx
              go_wp2_with fail
              go_quiet (with_reducible exact quiet1 (CT.out _))
              replace bt := bt.drewN nq
              replace br := br.drewN nq
              replace bx := bx.drewN nq
              replace ho := ho.below0 (belowD (Below.refl _ _) nq)
              replace hF := hF.drewN nq
              clear x0x x1x x2x x3x f0x f1x f2x f3x
              generalize wr.drewN nq = w3 at *
              obtain ⟨⟨x0x, x1x, x2x, x3x⟩, f0x, f1x, f2x, f3x⟩ := BoxN.st4 bx
              go_wp2_with fail
              clear x0x x1x x2x x3x f0x f1x f2x f3x
              have CB := Lib.hid (RBad_is (k := 2) (x := 2) rfl s q e A n c w3)
              obtain ⟨e6, he6⟩ : ∃ x, (if e = 0 then 2 else e) = x := ⟨_, rfl⟩
              rw [he6] at CB
              have He6 := Lib.hid he6
              clear he6
              with_reducible refine CB.out.mono ?_
              rintro r w6 ⟨rfl, hb6⟩
              clear CB
              replace bt := bt.all hb6
              replace br := br.all hb6
              replace bx := bx.all hb6
              replace ho := ho.below0 hb6
              replace hF := hF.trans (PsF.of_below hb6 _)
              clear hb6
              obtain ⟨⟨x0r, x1r, x2r, x3r⟩, f0r, f1r, f2r, f3r⟩ := BoxN.stZ br
              go_wp2_with fail
              clear x0r x1r x2r x3r f0r f1r f2r f3r
              replace ho := ho.put4 br st_ne_node (.string s) (.int .i64 (q : Nat)) (.slice A n c) (.int .i64 (e6 : Nat))
              replace bt := bt.far4 (g := w.heap.size + 1) (by omega) (.string s) (.int .i64 (q : Nat)) (.slice A n c) (.int .i64 (e6 : Nat))
              replace bx := bx.far4 (g := w.heap.size + 1) (by omega) (.string s) (.int .i64 (q : Nat)) (.slice A n c) (.int .i64 (e6 : Nat))
              replace br := br.put4 rfl s q A n c e6
              replace hF := hF.put4 (g := w.heap.size + 1) lr_ (.string s) (.int .i64 (q : Nat)) (.slice A n c) (.int .i64 (e6 : Nat))
              generalize (((((w6).setCell ⟨w.heap.size + 1, 0, none⟩ (.string s)).setCell ⟨w.heap.size + 1, 1, none⟩ (.int .i64 (q : Nat))).setCell ⟨w.heap.size + 1, 2, none⟩ (.slice A n c)).setCell ⟨w.heap.size + 1, 3, none⟩ (.int .i64 (e6 : Nat))) = w6s at *
              refine bodyPost_ret (resRowTmp rfl _ _ (w.heap.size + 1) 57 (svA s q A n c e6) (0, 0) _ rfl br Tryz.underlying57 rfl (by kernel_rfl)) rfl ?_
              obtain ⟨g, rfl⟩ : ∃ g, f = g + 1 := ⟨f - 1, by have := hfu Hx.out.1; omega⟩
              exact ⟨q, A, n, c, e6, 0, o, rfl, hqs, ho, hn, hF, psR_at0 (fun h => absurd Hx.out.1 h) (fun h => by
                have := He6.out
                rw [if_pos h] at this
                rw [pValue_num Hx.out.2.2 Hp1.out, Hnone.out]
                exact ⟨this.symm, by decide⟩)⟩
          · have c1 : decide ((q : Int) < (s.size : Int)) = false := by simp; omega
            have c2 : decide (q < s.size) = false := by simp; omega
            have Hex := Lib.hid (show d = 7 ∨ NoDig ((s.data.toList.drop p1).drop d) from .inr (noDig_at hq1 (fun hl h => hlt hl)))
            have hi0 : (0 : Int) ≤ (p1 : Int) := by omega
            have hi1 : (p1 : Int) ≤ (q : Int) := by omega
            have hi2 : (q : Int) ≤ (s.size : Int) := by omega
            by_cases h0 : d = 0
            · have dz : ((q : Int) == (p1 : Int)) = true := by simp; omega
              have Hnone := Lib.hid (hN.out.bad Hex.out (.inl h0))
              obtain ⟨⟨x0x, x1x, x2x, x3x⟩, f0x, f1x, f2x, f3x⟩ := BoxN.st4 bx
              go_wp2_with fail
              go_quiet (fail)
              replace bt := bt.drewN nq
              replace br := br.drewN nq
              replace bx := bx.drewN nq
              replace ho := ho.below0 (belowD (Below.refl _ _) nq)
              replace hF := hF.drewN nq
              clear x0x x1x x2x x3x f0x f1x f2x f3x
              generalize wr.drewN nq = w3 at *
              obtain ⟨⟨x0x, x1x, x2x, x3x⟩, f0x, f1x, f2x, f3x⟩ := BoxN.st4 bx
              go_wp2_with fail
              clear x0x x1x x2x x3x f0x f1x f2x f3x
              have CB := Lib.hid (RBad_is (k := 2) (x := 2) rfl s q e A n c w3)
              obtain ⟨e6, he6⟩ : ∃ x, (if e = 0 then 2 else e) = x := ⟨_, rfl⟩
              rw [he6] at CB
              have He6 := Lib.hid he6
              clear he6
              with_reducible refine CB.out.mono ?_
              rintro r w6 ⟨rfl, hb6⟩
              clear CB
              replace bt := bt.all hb6
              replace br := br.all hb6
              replace bx := bx.all hb6
              replace ho := ho.below0 hb6
              replace hF := hF.trans (PsF.of_below hb6 _)
              clear hb6
              obtain ⟨⟨x0r, x1r, x2r, x3r⟩, f0r, f1r, f2r, f3r⟩ := BoxN.stZ br
              go_wp2_with fail
              clear x0r x1r x2r x3r f0r f1r f2r f3r
              replace ho := ho.put4 br st_ne_node (.string s) (.int .i64 (q : Nat)) (.slice A n c) (.int .i64 (e6 : Nat))
              replace bt := bt.far4 (g := w.heap.size + 1) (by omega) (.string s) (.int .i64 (q : Nat)) (.slice A n c) (.int .i64 (e6 : Nat))
              replace bx := bx.far4 (g := w.heap.size + 1) (by omega) (.string s) (.int .i64 (q : Nat)) (.slice A n c) (.int .i64 (e6 : Nat))
              replace br := br.put4 rfl s q A n c e6
              replace hF := hF.put4 (g := w.heap.size + 1) lr_ (.string s) (.int .i64 (q : Nat)) (.slice A n c) (.int .i64 (e6 : Nat))
              generalize (((((w6).setCell ⟨w.heap.size + 1, 0, none⟩ (.string s)).setCell ⟨w.heap.size + 1, 1, none⟩ (.int .i64 (q : Nat))).setCell ⟨w.heap.size + 1, 2, none⟩ (.slice A n c)).setCell ⟨w.heap.size + 1, 3, none⟩ (.int .i64 (e6 : Nat))) = w6s at *
              refine bodyPost_ret (resRowTmp rfl _ _ (w.heap.size + 1) 57 (svA s q A n c e6) (0, 0) _ rfl br Tryz.underlying57 rfl (by kernel_rfl)) rfl ?_
              obtain ⟨g, rfl⟩ : ∃ g, f = g + 1 := ⟨f - 1, by have := hfu Hx.out.1; omega⟩
              exact ⟨q, A, n, c, e6, 0, o, rfl, hqs, ho, hn, hF, psR_at0 (fun h => absurd Hx.out.1 h) (fun h => by
                have := He6.out
                rw [if_pos h] at this
                rw [pValue_num Hx.out.2.2 Hp1.out, Hnone.out]
                exact ⟨this.symm, by decide⟩)⟩
            have dz : ((q : Int) == (p1 : Int)) = false := by simp; omega
            by_cases h9 : 999999 < a
            · have dn : decide ((a : Int) > 999999) = true := by simp; omega
              have dn2 : decide (999999 < a) = true := by simp; omega
              have Hnone := Lib.hid (hN.out.bad Hex.out (.inr (.inl h9)))
              obtain ⟨⟨x0x, x1x, x2x, x3x⟩, f0x, f1x, f2x, f3x⟩ := BoxN.st4 bx
              go_wp2_with fail
              go_quiet (fail)
              replace bt := bt.drewN nq
              replace br := br.drewN nq
              replace bx := bx.drewN nq
              replace ho := ho.below0 (belowD (Below.refl _ _) nq)
              replace hF := hF.drewN nq
              clear x0x x1x x2x x3x f0x f1x f2x f3x
              generalize wr.drewN nq = w3 at *
              obtain ⟨⟨x0x, x1x, x2x, x3x⟩, f0x, f1x, f2x, f3x⟩ := BoxN.st4 bx
              go_wp2_with fail
              clear x0x x1x x2x x3x f0x f1x f2x f3x
              have CB := Lib.hid (RBad_is (k := 2) (x := 2) rfl s q e A n c w3)
              obtain ⟨e6, he6⟩ : ∃ x, (if e = 0 then 2 else e) = x := ⟨_, rfl⟩
              rw [he6] at CB
              have He6 := Lib.hid he6
              clear he6
              with_reducible refine CB.out.mono ?_
              rintro r w6 ⟨rfl, hb6⟩
              clear CB
              replace bt := bt.all hb6
              replace br := br.all hb6
              replace bx := bx.all hb6
              replace ho := ho.below0 hb6
              replace hF := hF.trans (PsF.of_below hb6 _)
              clear hb6
              obtain ⟨⟨x0r, x1r, x2r, x3r⟩, f0r, f1r, f2r, f3r⟩ := BoxN.stZ br
              go_wp2_with fail
              clear x0r x1r x2r x3r f0r f1r f2r f3r
              replace ho := ho.put4 br st_ne_node (.string s) (.int .i64 (q : Nat)) (.slice A n c) (.int .i64 (e6 : Nat))
              replace bt := bt.far4 (g := w.heap.size + 1) (by omega) (.string s) (.int .i64 (q : Nat)) (.slice A n c) (.int .i64 (e6 : Nat))
              replace bx := bx.far4 (g := w.heap.size + 1) (by omega) (.string s) (.int .i64 (q : Nat)) (.slice A n c) (.int .i64 (e6 : Nat))
              replace br := br.put4 rfl s q A n c e6
              replace hF := hF.put4 (g := w.heap.size + 1) lr_ (.string s) (.int .i64 (q : Nat)) (.slice A n c) (.int .i64 (e6 : Nat))
              generalize (((((w6).setCell ⟨w.heap.size + 1, 0, none⟩ (.string s)).setCell ⟨w.heap.size + 1, 1, none⟩ (.int .i64 (q : Nat))).setCell ⟨w.heap.size + 1, 2, none⟩ (.slice A n c)).setCell ⟨w.heap.size + 1, 3, none⟩ (.int .i64 (e6 : Nat))) = w6s at *
              refine bodyPost_ret (resRowTmp rfl _ _ (w.heap.size + 1) 57 (svA s q A n c e6) (0, 0) _ rfl br Tryz.underlying57 rfl (by kernel_rfl)) rfl ?_
              obtain ⟨g, rfl⟩ : ∃ g, f = g + 1 := ⟨f - 1, by have := hfu Hx.out.1; omega⟩
              exact ⟨q, A, n, c, e6, 0, o, rfl, hqs, ho, hn, hF, psR_at0 (fun h => absurd Hx.out.1 h) (fun h => by
                have := He6.out
                rw [if_pos h] at this
                rw [pValue_num Hx.out.2.2 Hp1.out, Hnone.out]
                exact ⟨this.symm, by decide⟩)⟩
            have dn : decide ((a : Int) > 999999) = false := by simp; omega
            have dn2 : decide (999999 < a) = false := by simp; omega
            by_cases hit : Lib.itoa (a : Int) = (s.extract p1 q).data.toList
            · have CT := Lib.hid (fun V => (RDig_any V a (by omega)))
              rw [bytes_eq hit] at CT
              have Hgood := Lib.hid (hN.out.good Hex.out (by omega) hit)
              clear hit
              obtain ⟨⟨x0x, x1x, x2x, x3x⟩, f0x, f1x, f2x, f3x⟩ := BoxN.st4 bx
              go_wp2_with fail
              go_quiet (with_reducible exact quiet1 (CT.out _))
              replace bt := bt.drewN nq
              replace br := br.drewN nq
              replace bx := bx.drewN nq
              replace ho := ho.below0 (belowD (Below.refl _ _) nq)
              replace hF := hF.drewN nq
              clear x0x x1x x2x x3x f0x f1x f2x f3x
              generalize wr.drewN nq = w3 at *
              obtain ⟨⟨x0x, x1x, x2x, x3x⟩, f0x, f1x, f2x, f3x⟩ := BoxN.st4 bx
              go_wp2_with fail
              replace hp := hqs
              clear x0x x1x x2x x3x f0x f1x f2x f3x
              have CD := Lib.hid (RMade_any (w := w3) (p := q) (e := e) hs hp ho hn (0) (a) (0) (0) (0))
              with_reducible refine CD.out.mono ?_
              rintro r w5 ⟨A5, n5, c5, e5, o5, rfl, ho5, hn5, hf5, hd5⟩
              clear CD
              replace bt := hf5.st ho bt
              replace br := hf5.st ho br
              replace bx := hf5.st ho bx
              replace hF := hF.trans hf5
              clear ho hn hf5
              have ho := ho5
              have hn := hn5
              clear ho5 hn5
              obtain ⟨⟨x0x, x1x, x2x, x3x⟩, f0x, f1x, f2x, f3x⟩ := BoxN.st4 bx
              go_wp2_with fail
              clear x0x x1x x2x x3x f0x f1x f2x f3x
              replace ho := ho.put4 bx st_ne_node (.string s) (.int .i64 (q : Nat)) (.slice A5 n5 c5) (.int .i64 (e5 : Nat))
              replace bt := bt.far4 (g := yx) (by omega) (.string s) (.int .i64 (q : Nat)) (.slice A5 n5 c5) (.int .i64 (e5 : Nat))
              replace br := br.far4 (g := yx) (by omega) (.string s) (.int .i64 (q : Nat)) (.slice A5 n5 c5) (.int .i64 (e5 : Nat))
              replace bx := bx.put4 rfl s q A5 n5 c5 e5
              replace hF := hF.put4 (g := yx) lx_ (.string s) (.int .i64 (q : Nat)) (.slice A5 n5 c5) (.int .i64 (e5 : Nat))
              generalize (((((w5).setCell ⟨yx, 0, none⟩ (.string s)).setCell ⟨yx, 1, none⟩ (.int .i64 (q : Nat))).setCell ⟨yx, 2, none⟩ (.slice A5 n5 c5)).setCell ⟨yx, 3, none⟩ (.int .i64 (e5 : Nat))) = w5s at *
              obtain ⟨⟨x0x, x1x, x2x, x3x⟩, f0x, f1x, f2x, f3x⟩ := BoxN.st4 bx
              obtain ⟨⟨x0r, x1r, x2r, x3r⟩, f0r, f1r, f2r, f3r⟩ := BoxN.stZ br
              have hni : (n5 : Int) ≤ 80 := by omega
              go_wp2_with fail
              go_region
              go_wp2_with fail
              clear x0r x1r x2r x3r f0r f1r f2r f3r
              clear x0x x1x x2x x3x f0x f1x f2x f3x
              replace ho := ho.put4 br st_ne_node (.string s) (.int .i64 (q : Nat)) (.slice A5 n5 c5) (.int .i64 (e5 : Nat))
              replace bt := bt.far4 (g := w.heap.size + 1) (by omega) (.string s) (.int .i64 (q : Nat)) (.slice A5 n5 c5) (.int .i64 (e5 : Nat))
              replace bx := bx.far4 (g := w.heap.size + 1) (by omega) (.string s) (.int .i64 (q : Nat)) (.slice A5 n5 c5) (.int .i64 (e5 : Nat))
              replace br := br.put4 rfl s q A5 n5 c5 e5
              replace hF := hF.put4 (g := w.heap.size + 1) lr_ (.string s) (.int .i64 (q : Nat)) (.slice A5 n5 c5) (.int .i64 (e5 : Nat))
              generalize (((((w5s).setCell ⟨w.heap.size + 1, 0, none⟩ (.string s)).setCell ⟨w.heap.size + 1, 1, none⟩ (.int .i64 (q : Nat))).setCell ⟨w.heap.size + 1, 2, none⟩ (.slice A5 n5 c5)).setCell ⟨w.heap.size + 1, 3, none⟩ (.int .i64 (e5 : Nat))) = w5ss at *
              refine bodyPost_ret (resRowTmp rfl _ _ (w.heap.size + 1) 57 (svA s q A5 n5 c5 e5) (0, 0) _ rfl br Tryz.underlying57 rfl (by kernel_rfl)) rfl ?_
              obtain ⟨g, rfl⟩ : ∃ g, f = g + 1 := ⟨f - 1, by have := hfu Hx.out.1; omega⟩
              exact ⟨q, A5, n5, c5, e5, _, o5, rfl, hp, ho, hn, ⟨⟨hF.keep.os, hF.keep.tape, hF.keep.output, hF.keep.size, hF.keep.block⟩, hF.blk⟩, psR_at0 (fun h => absurd Hx.out.1 h) (fun h => by
                rw [pValue_num Hx.out.2.2 Hp1.out, Hgood.out.1]
                show PsR s (mk5 _ _ _ _ _ _ _) _ _ _ _
                rw [Hgood.out.2]
                exact psR_mk5 hl4 hd5.2 h)⟩
            have Hnone := Lib.hid (hN.out.bad Hex.out (.inr (.inr hit)))
            have CT := Lib.hid (fun V => (RDig_any V a (by omega)))
            obtain ⟨tx, htx⟩ : ∃ tx, (⟨(Lib.itoa (a : Int)).toArray⟩ : ByteArray) = tx := ⟨_, rfl⟩
            rw [htx] at CT
            obtain ⟨dg, hdg⟩ : ∃ dg, s.extract p1 q = dg := ⟨_, rfl⟩
            have hne : ¬ tx = dg := fun h => hit (by have := congrArg (fun z : ByteArray => z.data.toList) (htx.trans (h.trans hdg.symm)); simpa using this)
            have dq1 : (tx.toList == dg.toList) = false := by
              rw [beq_eq_false_iff_ne]
              intro h
              rw [Lib.toList_data, Lib.toList_data] at h
              exact hne (ByteArray.ext (Array.toList_inj.1 h))
            have dq2 : decide (tx = dg) = false := decide_eq_false hne
            subst hdg
            clear hit hne htx
            obtain ⟨⟨x0x, x1x, x2x, x3x⟩, f0x, f1x, f2x, f3x⟩ := BoxN.st4 bx
            go_wp2_with fail
            go_quiet (with_reducible exact quiet1 (CT.out _))
            replace bt := bt.drewN nq
            replace br := br.drewN nq
            replace bx := bx.drewN nq
            replace ho := ho.below0 (belowD (Below.refl _ _) nq)
            replace hF := hF.drewN nq
            clear x0x x1x x2x x3x f0x f1x f2x f3x
            generalize wr.drewN nq = w3 at *
            obtain ⟨⟨x0x, x1x, x2x, x3x⟩, f0x, f1x, f2x, f3x⟩ := BoxN.st4 bx
            go_wp2_with fail
            clear x0x x1x x2x x3x f0x f1x f2x f3x
            have CB := Lib.hid (RBad_is (k := 2) (x := 2) rfl s q e A n c w3)
            obtain ⟨e6, he6⟩ : ∃ x, (if e = 0 then 2 else e) = x := ⟨_, rfl⟩
            rw [he6] at CB
            have He6 := Lib.hid he6
            clear he6
            with_reducible refine CB.out.mono ?_
            rintro r w6 ⟨rfl, hb6⟩
            clear CB
            replace bt := bt.all hb6
            replace br := br.all hb6
            replace bx := bx.all hb6
            replace ho := ho.below0 hb6
            replace hF := hF.trans (PsF.of_below hb6 _)
            clear hb6
            obtain ⟨⟨x0r, x1r, x2r, x3r⟩, f0r, f1r, f2r, f3r⟩ := BoxN.stZ br
            go_wp2_with fail
            clear x0r x1r x2r x3r f0r f1r f2r f3r
            replace ho := ho.put4 br st_ne_node (.string s) (.int .i64 (q : Nat)) (.slice A n c) (.int .i64 (e6 : Nat))
            replace bt := bt.far4 (g := w.heap.size + 1) (by omega) (.string s) (.int .i64 (q : Nat)) (.slice A n c) (.int .i64 (e6 : Nat))
            replace bx := bx.far4 (g := w.heap.size + 1) (by omega) (.string s) (.int .i64 (q : Nat)) (.slice A n c) (.int .i64 (e6 : Nat))
            replace br := br.put4 rfl s q A n c e6
            replace hF := hF.put4 (g := w.heap.size + 1) lr_ (.string s) (.int .i64 (q : Nat)) (.slice A n c) (.int .i64 (e6 : Nat))
            generalize (((((w6).setCell ⟨w.heap.size + 1, 0, none⟩ (.string s)).setCell ⟨w.heap.size + 1, 1, none⟩ (.int .i64 (q : Nat))).setCell ⟨w.heap.size + 1, 2, none⟩ (.slice A n c)).setCell ⟨w.heap.size + 1, 3, none⟩ (.int .i64 (e6 : Nat))) = w6s at *
            refine bodyPost_ret (resRowTmp rfl _ _ (w.heap.size + 1) 57 (svA s q A n c e6) (0, 0) _ rfl br Tryz.underlying57 rfl (by kernel_rfl)) rfl ?_
            obtain ⟨g, rfl⟩ : ∃ g, f = g + 1 := ⟨f - 1, by have := hfu Hx.out.1; omega⟩
            exact ⟨q, A, n, c, e6, 0, o, rfl, hqs, ho, hn, hF, psR_at0 (fun h => absurd Hx.out.1 h) (fun h => by
              have := He6.out
              rw [if_pos h] at this
              rw [pValue_num Hx.out.2.2 Hp1.out, Hnone.out]
              exact ⟨this.symm, by decide⟩)⟩
      | false =>
        cases hnm : nextName s p e with
        | some m =>
          have Hx := Lib.hid (nextName_some hnm)
          have dm : decide ((m : Int) < 0) = false := by simp
          have hl4 := ho.1
          obtain ⟨⟨x0t, x1t, x2t, x3t⟩, f0t, f1t, f2t, f3t⟩ := BoxN.st4 bt
          go_wp2_with fail
          clear x0t x1t x2t x3t f0t f1t f2t f3t
          have CS := Lib.hid (RSign_any (s := s) (p := p) (e := e) (A := A) (n := n) (cc := c) (w := wr) (c := 35) (x := 35) rfl hs hp)
          rw [h35, if_neg (by decide)] at CS
          with_reducible refine CS.out.mono ?_
          rintro r w1 ⟨rfl, hb1⟩
          clear CS
          replace bt := bt.all hb1
          replace br := br.all hb1
          replace ho := ho.below0 hb1
          replace hF := hF.trans (PsF.of_below hb1 _)
          clear hb1
          obtain ⟨⟨x0t, x1t, x2t, x3t⟩, f0t, f1t, f2t, f3t⟩ := BoxN.st4 (bt.alloc (.cells (svA s p A n c e) 57))
          go_wp2_with fail
          clear x0t x1t x2t x3t f0t f1t f2t f3t
          have bx := BoxN.new w1 57 (svA s p A n c e)
          have dtx := bt.lt
          replace bt := bt.alloc (.cells (svA s p A n c e) 57)
          have drx := br.lt
          replace br := br.alloc (.cells (svA s p A n c e) 57)
          replace ho := ho.below0 ((Below.refl _ _).alloc (Nat.le_refl _) (.cells (svA s p A n c e) 57))
          have lx_ : w.heap.size ≤ w1.heap.size := hF.keep.size
          replace hF := hF.alloc (.cells (svA s p A n c e) 57)
          generalize (w1.alloc (.cells #[.string s, .int .i64 (p : Nat), .slice A n c, .int .i64 (e : Nat)] 57)) = w1a at *
          generalize w1.heap.size = yx at *
          have CN := Lib.hid (RName_any (s := s) (p := p) (e := e) (A := A) (n := n) (cc := c) (w := w1a) hs hp)
          rw [hnm] at CN
          unfold nameRes at CN
          dsimp only at CN
          obtain ⟨p2, hp2⟩ : ∃ x, p + 1 = x := ⟨_, rfl⟩
          rw [hp2] at CN
          have Hp2 := Lib.hid hp2
          clear hp2
          with_reducible refine CN.out.mono ?_
          rintro r w2 ⟨rfl, hb2⟩
          clear CN
          replace bt := bt.all hb2
          replace br := br.all hb2
          replace bx := bx.all hb2
          replace ho := ho.below0 hb2
          replace hF := hF.trans (PsF.of_below hb2 _)
          clear hb2
          obtain ⟨⟨x0x, x1x, x2x, x3x⟩, f0x, f1x, f2x, f3x⟩ := BoxN.st4 bx
          go_wp2_with fail
          clear x0x x1x x2x x3x f0x f1x f2x f3x
          replace ho := ho.put4 bx st_ne_node (.string s) (.int .i64 (p2 : Nat)) (.slice A n c) (.int .i64 (e : Nat))
          replace bt := bt.far4 (g := yx) (by omega) (.string s) (.int .i64 (p2 : Nat)) (.slice A n c) (.int .i64 (e : Nat))
          replace br := br.far4 (g := yx) (by omega) (.string s) (.int .i64 (p2 : Nat)) (.slice A n c) (.int .i64 (e : Nat))
          replace bx := bx.put4 rfl s p2 A n c e
          replace hF := hF.put4 (g := yx) lx_ (.string s) (.int .i64 (p2 : Nat)) (.slice A n c) (.int .i64 (e : Nat))
          generalize (((((w2).setCell ⟨yx, 0, none⟩ (.string s)).setCell ⟨yx, 1, none⟩ (.int .i64 (p2 : Nat))).setCell ⟨yx, 2, none⟩ (.slice A n c)).setCell ⟨yx, 3, none⟩ (.int .i64 (e : Nat))) = w2s at *
          have hp1 : p2 ≤ s.size := by have := Hx.out.2.1; have := Hp2.out; omega
          replace hp := hp1
          clear hp1
          have CD := Lib.hid (RMade_any (w := w2s) (p := p2) (e := e) hs hp ho hn (1) (m) (0) (0) (0))
          with_reducible refine CD.out.mono ?_
          rintro r w3 ⟨A3, n3, c3, e3, o3, rfl, ho3, hn3, hf3, hd3⟩
          clear CD
          replace bt := hf3.st ho bt
          replace br := hf3.st ho br
          replace bx := hf3.st ho bx
          replace hF := hF.trans hf3
          clear ho hn hf3
          have ho := ho3
          have hn := hn3
          clear ho3 hn3
          obtain ⟨⟨x0x, x1x, x2x, x3x⟩, f0x, f1x, f2x, f3x⟩ := BoxN.st4 bx
          go_wp2_with fail
          clear x0x x1x x2x x3x f0x f1x f2x f3x
          replace ho := ho.put4 bx st_ne_node (.string s) (.int .i64 (p2 : Nat)) (.slice A3 n3 c3) (.int .i64 (e3 : Nat))
          replace bt := bt.far4 (g := yx) (by omega) (.string s) (.int .i64 (p2 : Nat)) (.slice A3 n3 c3) (.int .i64 (e3 : Nat))
          replace br := br.far4 (g := yx) (by omega) (.string s) (.int .i64 (p2 : Nat)) (.slice A3 n3 c3) (.int .i64 (e3 : Nat))
          replace bx := bx.put4 rfl s p2 A3 n3 c3 e3
          replace hF := hF.put4 (g := yx) lx_ (.string s) (.int .i64 (p2 : Nat)) (.slice A3 n3 c3) (.int .i64 (e3 : Nat))
          generalize (((((w3).setCell ⟨yx, 0, none⟩ (.string s)).setCell ⟨yx, 1, none⟩ (.int .i64 (p2 : Nat))).setCell ⟨yx, 2, none⟩ (.slice A3 n3 c3)).setCell ⟨yx, 3, none⟩ (.int .i64 (e3 : Nat))) = w3s at *
          obtain ⟨⟨x0x, x1x, x2x, x3x⟩, f0x, f1x, f2x, f3x⟩ := BoxN.st4 bx
          obtain ⟨⟨x0r, x1r, x2r, x3r⟩, f0r, f1r, f2r, f3r⟩ := BoxN.stZ br
          have hni : (n3 : Int) ≤ 80 := by omega
          go_wp2_with fail
          go_region
          go_wp2_with fail
          clear x0r x1r x2r x3r f0r f1r f2r f3r
          clear x0x x1x x2x x3x f0x f1x f2x f3x
          replace ho := ho.put4 br st_ne_node (.string s) (.int .i64 (p2 : Nat)) (.slice A3 n3 c3) (.int .i64 (e3 : Nat))
          replace bt := bt.far4 (g := w.heap.size + 1) (by omega) (.string s) (.int .i64 (p2 : Nat)) (.slice A3 n3 c3) (.int .i64 (e3 : Nat))
          replace bx := bx.far4 (g := w.heap.size + 1) (by omega) (.string s) (.int .i64 (p2 : Nat)) (.slice A3 n3 c3) (.int .i64 (e3 : Nat))
          replace br := br.put4 rfl s p2 A3 n3 c3 e3
          replace hF := hF.put4 (g := w.heap.size + 1) lr_ (.string s) (.int .i64 (p2 : Nat)) (.slice A3 n3 c3) (.int .i64 (e3 : Nat))
          generalize (((((w3s).setCell ⟨w.heap.size + 1, 0, none⟩ (.string s)).setCell ⟨w.heap.size + 1, 1, none⟩ (.int .i64 (p2 : Nat))).setCell ⟨w.heap.size + 1, 2, none⟩ (.slice A3 n3 c3)).setCell ⟨w.heap.size + 1, 3, none⟩ (.int .i64 (e3 : Nat))) = w3ss at *
          refine bodyPost_ret (resRowTmp rfl _ _ (w.heap.size + 1) 57 (svA s p2 A3 n3 c3 e3) (0, 0) _ rfl br Tryz.underlying57 rfl (by kernel_rfl)) rfl ?_
          obtain ⟨g, rfl⟩ : ∃ g, f = g + 1 := ⟨f - 1, by have := hfu Hx.out.1; omega⟩
          exact ⟨p2, A3, n3, c3, e3, _, o3, rfl, hp, ho, hn, ⟨⟨hF.keep.os, hF.keep.tape, hF.keep.output, hF.keep.size, hF.keep.block⟩, hF.blk⟩, psR_at0 (fun h => absurd Hx.out.1 h) (fun h => by
            rw [pValue_var hall.out h35 hnm Hp2.out]
            exact psR_mk5 hl4 hd3.2 h)⟩
        | none =>
          obtain ⟨⟨x0t, x1t, x2t, x3t⟩, f0t, f1t, f2t, f3t⟩ := BoxN.st4 bt
          go_wp2_with fail
          clear x0t x1t x2t x3t f0t f1t f2t f3t
          have CS := Lib.hid (RSign_any (s := s) (p := p) (e := e) (A := A) (n := n) (cc := c) (w := wr) (c := 35) (x := 35) rfl hs hp)
          rw [h35, if_neg (by decide)] at CS
          with_reducible refine CS.out.mono ?_
          rintro r w1 ⟨rfl, hb1⟩
          clear CS
          replace bt := bt.all hb1
          replace br := br.all hb1
          replace ho := ho.below0 hb1
          replace hF := hF.trans (PsF.of_below hb1 _)
          clear hb1
          obtain ⟨⟨x0t, x1t, x2t, x3t⟩, f0t, f1t, f2t, f3t⟩ := BoxN.st4 (bt.alloc (.cells (svA s p A n c e) 57))
          go_wp2_with fail
          clear x0t x1t x2t x3t f0t f1t f2t f3t
          have bx := BoxN.new w1 57 (svA s p A n c e)
          have dtx := bt.lt
          replace bt := bt.alloc (.cells (svA s p A n c e) 57)
          have drx := br.lt
          replace br := br.alloc (.cells (svA s p A n c e) 57)
          replace ho := ho.below0 ((Below.refl _ _).alloc (Nat.le_refl _) (.cells (svA s p A n c e) 57))
          have lx_ : w.heap.size ≤ w1.heap.size := hF.keep.size
          replace hF := hF.alloc (.cells (svA s p A n c e) 57)
          generalize (w1.alloc (.cells #[.string s, .int .i64 (p : Nat), .slice A n c, .int .i64 (e : Nat)] 57)) = w1a at *
          generalize w1.heap.size = yx at *
          have CN := Lib.hid (RName_any (s := s) (p := p) (e := e) (A := A) (n := n) (cc := c) (w := w1a) hs hp)
          rw [hnm] at CN
          unfold nameRes at CN
          dsimp only at CN
          with_reducible refine CN.out.mono ?_
          rintro r w2 ⟨rfl, hb2⟩
          clear CN
          replace bt := bt.all hb2
          replace br := br.all hb2
          replace bx := bx.all hb2
          replace ho := ho.below0 hb2
          replace hF := hF.trans (PsF.of_below hb2 _)
          clear hb2
          obtain ⟨⟨x0x, x1x, x2x, x3x⟩, f0x, f1x, f2x, f3x⟩ := BoxN.st4 bx
          go_wp2_with fail
          clear x0x x1x x2x x3x f0x f1x f2x f3x
          replace ho := ho.put4 bx st_ne_node (.string s) (.int .i64 (p : Nat)) (.slice A n c) (.int .i64 (e : Nat))
          replace bt := bt.far4 (g := yx) (by omega) (.string s) (.int .i64 (p : Nat)) (.slice A n c) (.int .i64 (e : Nat))
          replace br := br.far4 (g := yx) (by omega) (.string s) (.int .i64 (p : Nat)) (.slice A n c) (.int .i64 (e : Nat))
          replace bx := bx.put4 rfl s p A n c e
          replace hF := hF.put4 (g := yx) lx_ (.string s) (.int .i64 (p : Nat)) (.slice A n c) (.int .i64 (e : Nat))
          generalize (((((w2).setCell ⟨yx, 0, none⟩ (.string s)).setCell ⟨yx, 1, none⟩ (.int .i64 (p : Nat))).setCell ⟨yx, 2, none⟩ (.slice A n c)).setCell ⟨yx, 3, none⟩ (.int .i64 (e : Nat))) = w2s at *
          have CB := Lib.hid (RBad_is (k := 2) (x := 2) rfl s p e A n c w2s)
          obtain ⟨e3, he3⟩ : ∃ x, (if e = 0 then 2 else e) = x := ⟨_, rfl⟩
          rw [he3] at CB
          have He3 := Lib.hid he3
          clear he3
          with_reducible refine CB.out.mono ?_
          rintro r w3 ⟨rfl, hb3⟩
          clear CB
          replace bt := bt.all hb3
          replace br := br.all hb3
          replace bx := bx.all hb3
          replace ho := ho.below0 hb3
          replace hF := hF.trans (PsF.of_below hb3 _)
          clear hb3
          obtain ⟨⟨x0r, x1r, x2r, x3r⟩, f0r, f1r, f2r, f3r⟩ := BoxN.stZ br
          go_wp2_with fail
          clear x0r x1r x2r x3r f0r f1r f2r f3r
          replace ho := ho.put4 br st_ne_node (.string s) (.int .i64 (p : Nat)) (.slice A n c) (.int .i64 (e3 : Nat))
          replace bt := bt.far4 (g := w.heap.size + 1) (by omega) (.string s) (.int .i64 (p : Nat)) (.slice A n c) (.int .i64 (e3 : Nat))
          replace bx := bx.far4 (g := w.heap.size + 1) (by omega) (.string s) (.int .i64 (p : Nat)) (.slice A n c) (.int .i64 (e3 : Nat))
          replace br := br.put4 rfl s p A n c e3
          replace hF := hF.put4 (g := w.heap.size + 1) lr_ (.string s) (.int .i64 (p : Nat)) (.slice A n c) (.int .i64 (e3 : Nat))
          generalize (((((w3).setCell ⟨w.heap.size + 1, 0, none⟩ (.string s)).setCell ⟨w.heap.size + 1, 1, none⟩ (.int .i64 (p : Nat))).setCell ⟨w.heap.size + 1, 2, none⟩ (.slice A n c)).setCell ⟨w.heap.size + 1, 3, none⟩ (.int .i64 (e3 : Nat))) = w3s at *
          refine bodyPost_ret (resRowTmp rfl _ _ (w.heap.size + 1) 57 (svA s p A n c e3) (0, 0) _ rfl br Tryz.underlying57 rfl (by kernel_rfl)) rfl ?_
          exact ⟨p, A, n, c, e3, 0, o, rfl, hp, ho, hn, hF, psR_at0 (fun h => by have := He3.out; rw [if_neg h] at this; exact this.symm) (fun h => by
            obtain ⟨g, rfl⟩ : ∃ g, f = g + 1 := ⟨f - 1, by have := hfu h; omega⟩
            have := He3.out
            rw [if_pos h] at this
            rw [pValue_none hall.out h35 hnm h]
            exact ⟨this.symm, by decide⟩)⟩
end Go.Proofs.YtfpghfmdkbdojaaGreatDoor
