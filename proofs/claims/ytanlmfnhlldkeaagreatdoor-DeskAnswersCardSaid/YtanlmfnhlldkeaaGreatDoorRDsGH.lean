/-
  Contract: quietwingref5.act.
  Contract: quietwingref5.answer, where it starts.
-/
import Derived.Test.YtanlmfnhlldkeaaGreatDoorRDsF
namespace Go.Proofs.YtanlmfnhlldkeaaGreatDoor
open Go.RowKit
set_option maxRecDepth 100000
set_option linter.unusedVariables false

def dActR (D : DS) (v : List UInt8) (l : List Nat) : DS × List UInt8 := match dAct D v l with
  | none => (D, badL)
  | some r => r
section
variable {D : DS} {v : List UInt8} {l : List Nat} {j : Nat}
theorem dAct_k (h : kindV v = some j) : dActR D v l = if l.length ≠ needD j then (D, badL) else match D.T with
    | none => (D, stateL)
    | some T => dAsk D T j l := by
  unfold dActR dAct
  rw [h]
  dsimp only
  by_cases e : l.length ≠ needD j
  · rw [if_pos e, if_pos e]
  · rw [if_neg e, if_neg e]
    cases D.T <;> rfl
theorem dAct_d (h : kindV v = none) (h2 : doesV v = some j) : dActR D v l = if l.length ≠ 1 then (D, badL) else match D.T with
    | none => (D, stateL)
    | some T => dDo D T v j (l.getD 0 0) := by
  unfold dActR dAct
  rw [h, h2]
  dsimp only
  by_cases e : l.length ≠ 1
  · rw [if_pos e, if_pos e]
  · rw [if_neg e, if_neg e]
    cases D.T <;> rfl
theorem dAct_no (h : kindV v = none) (h2 : doesV v = none) : dActR D v l = (D, badL) := by
  unfold dActR dAct
  rw [h, h2]
  dsimp only
  split
  · rename_i e
    split at e
    · rfl
    · rfl
  · rename_i e
    split at e <;> cases e
end
section
variable {ok : Nat → Prop} {W0 w : World} {D : DS}
theorem RAct_any (hok : ∀ g, W0.heap.size ≤ g → ok g) (hD : DOk D) {kv : Value} (hR : RDAt ok W0 kv D) (hbW : Below W0.heap.size W0 w) (s v : ByteArray) (l : List Nat) {A : Option Addr} {c : Nat} (hown : OwnI w W0.heap.size (.slice A l.length c) (castL l)) :
    Calls Tryz.prog 66 #[kv, .string s, .string v, .slice A l.length c] w fun e w' => RDPost ok W0 (dActR D v.data.toList l) e w' := by
  obtain ⟨a1, a2, c1, c2, b1, b2, b3, b4, b5, k1, d1, k2, d2, k3, d3, k4, d4, k5, d5, ts, mn, ch, rfl, iU, iF, hrt⟩ := hR.is
  by_cases hvRead : v.data.toList = vRead
  · obtain rfl : v = ⟨#[114, 101, 97, 100]⟩ := ba_ext hvRead
    rw [show (⟨#[114, 101, 97, 100]⟩ : ByteArray).data.toList = vRead from rfl, dAct_k (j := 0) (by decide)]
    by_cases hlen : l.length = 2
    · rw [if_neg (by rw [hlen]; decide)]
      cases hT : D.T with
      | none =>
        rw [hT] at hR
        exact actRead_state hR hbW s hlen
      | some T =>
        rw [hT] at hR
        obtain ⟨l0, l1, rfl⟩ : ∃ l0 l1, l = [l0, l1] := by
          match l, hlen with
          | [x0, x1], _ => exact ⟨x0, x1, rfl⟩
        exact actRead_ask hok hD hR hT hbW s hown
    · rw [if_pos (by rw [show needD 0 = 2 from rfl]; exact hlen)]
      exact actRead_len hR hbW s hlen
  by_cases hvWrite : v.data.toList = vWrite
  · obtain rfl : v = ⟨#[119, 114, 105, 116, 101]⟩ := ba_ext hvWrite
    rw [show (⟨#[119, 114, 105, 116, 101]⟩ : ByteArray).data.toList = vWrite from rfl, dAct_k (j := 1) (by decide)]
    by_cases hlen : l.length = 2
    · rw [if_neg (by rw [hlen]; decide)]
      cases hT : D.T with
      | none =>
        rw [hT] at hR
        exact actWrite_state hR hbW s hlen
      | some T =>
        rw [hT] at hR
        obtain ⟨l0, l1, rfl⟩ : ∃ l0 l1, l = [l0, l1] := by
          match l, hlen with
          | [x0, x1], _ => exact ⟨x0, x1, rfl⟩
        exact actWrite_ask hok hD hR hT hbW s hown
    · rw [if_pos (by rw [show needD 1 = 2 from rfl]; exact hlen)]
      exact actWrite_len hR hbW s hlen
  by_cases hvDrop : v.data.toList = vDrop
  · obtain rfl : v = ⟨#[100, 114, 111, 112]⟩ := ba_ext hvDrop
    rw [show (⟨#[100, 114, 111, 112]⟩ : ByteArray).data.toList = vDrop from rfl, dAct_k (j := 2) (by decide)]
    by_cases hlen : l.length = 2
    · rw [if_neg (by rw [hlen]; decide)]
      cases hT : D.T with
      | none =>
        rw [hT] at hR
        exact actDrop_state hR hbW s hlen
      | some T =>
        rw [hT] at hR
        obtain ⟨l0, l1, rfl⟩ : ∃ l0 l1, l = [l0, l1] := by
          match l, hlen with
          | [x0, x1], _ => exact ⟨x0, x1, rfl⟩
        exact actDrop_ask hok hD hR hT hbW s hown
    · rw [if_pos (by rw [show needD 2 = 2 from rfl]; exact hlen)]
      exact actDrop_len hR hbW s hlen
  by_cases hvCopy : v.data.toList = vCopy
  · obtain rfl : v = ⟨#[99, 111, 112, 121]⟩ := ba_ext hvCopy
    rw [show (⟨#[99, 111, 112, 121]⟩ : ByteArray).data.toList = vCopy from rfl, dAct_k (j := 3) (by decide)]
    by_cases hlen : l.length = 3
    · rw [if_neg (by rw [hlen]; decide)]
      cases hT : D.T with
      | none =>
        rw [hT] at hR
        exact actCopy_state hR hbW s hlen
      | some T =>
        rw [hT] at hR
        obtain ⟨l0, l1, l2, rfl⟩ : ∃ l0 l1 l2, l = [l0, l1, l2] := by
          match l, hlen with
          | [x0, x1, x2], _ => exact ⟨x0, x1, x2, rfl⟩
        exact actCopy_ask hok hD hR hT hbW s hown
    · rw [if_pos (by rw [show needD 3 = 3 from rfl]; exact hlen)]
      exact actCopy_len hR hbW s hlen
  by_cases hvReads : v.data.toList = vReads
  · obtain rfl : v = ⟨#[114, 101, 97, 100, 115]⟩ := ba_ext hvReads
    rw [show (⟨#[114, 101, 97, 100, 115]⟩ : ByteArray).data.toList = vReads from rfl, dAct_d (j := 0) (by decide) (by decide)]
    by_cases hlen : l.length = 1
    · rw [if_neg (by rw [hlen]; decide)]
      cases hT : D.T with
      | none =>
        rw [hT] at hR
        exact actReads_state hR hbW s hlen
      | some T =>
        rw [hT] at hR
        obtain ⟨x, rfl⟩ : ∃ x, l = [x] := by
          match l, hlen with
          | [x], _ => exact ⟨x, rfl⟩
        obtain ⟨A', c', e, hi⟩ := hown.form
        injection e with e1 e2 e3
        subst e1
        obtain ⟨g, o, rfl, hc⟩ := hi (by simp [castL])
        have hx := hc 0 _ rfl
        rw [Nat.add_zero] at hx
        exact actReads_do hR hT (hD.tlen hT) ⟨hD.m8, hD.n8⟩ hbW s hx
    · rw [if_pos hlen]
      exact actReads_len hR hbW s hlen
  by_cases hvWrites : v.data.toList = vWrites
  · obtain rfl : v = ⟨#[119, 114, 105, 116, 101, 115]⟩ := ba_ext hvWrites
    rw [show (⟨#[119, 114, 105, 116, 101, 115]⟩ : ByteArray).data.toList = vWrites from rfl, dAct_d (j := 1) (by decide) (by decide)]
    by_cases hlen : l.length = 1
    · rw [if_neg (by rw [hlen]; decide)]
      cases hT : D.T with
      | none =>
        rw [hT] at hR
        exact actWrites_state hR hbW s hlen
      | some T =>
        rw [hT] at hR
        obtain ⟨x, rfl⟩ : ∃ x, l = [x] := by
          match l, hlen with
          | [x], _ => exact ⟨x, rfl⟩
        obtain ⟨A', c', e, hi⟩ := hown.form
        injection e with e1 e2 e3
        subst e1
        obtain ⟨g, o, rfl, hc⟩ := hi (by simp [castL])
        have hx := hc 0 _ rfl
        rw [Nat.add_zero] at hx
        exact actWrites_do hR hT (hD.tlen hT) ⟨hD.m8, hD.n8⟩ hbW s hx
    · rw [if_pos hlen]
      exact actWrites_len hR hbW s hlen
  by_cases hvHolds : v.data.toList = vHolds
  · obtain rfl : v = ⟨#[104, 111, 108, 100, 115]⟩ := ba_ext hvHolds
    rw [show (⟨#[104, 111, 108, 100, 115]⟩ : ByteArray).data.toList = vHolds from rfl, dAct_d (j := 2) (by decide) (by decide)]
    by_cases hlen : l.length = 1
    · rw [if_neg (by rw [hlen]; decide)]
      cases hT : D.T with
      | none =>
        rw [hT] at hR
        exact actHolds_state hR hbW s hlen
      | some T =>
        rw [hT] at hR
        obtain ⟨x, rfl⟩ : ∃ x, l = [x] := by
          match l, hlen with
          | [x], _ => exact ⟨x, rfl⟩
        obtain ⟨A', c', e, hi⟩ := hown.form
        injection e with e1 e2 e3
        subst e1
        obtain ⟨g, o, rfl, hc⟩ := hi (by simp [castL])
        have hx := hc 0 _ rfl
        rw [Nat.add_zero] at hx
        exact actHolds_do hR hT (hD.tlen hT) ⟨hD.m8, hD.n8⟩ hbW s hx
    · rw [if_pos hlen]
      exact actHolds_len hR hbW s hlen
  by_cases hvCrash : v.data.toList = vCrash
  · obtain rfl : v = ⟨#[99, 114, 97, 115, 104]⟩ := ba_ext hvCrash
    rw [show (⟨#[99, 114, 97, 115, 104]⟩ : ByteArray).data.toList = vCrash from rfl, dAct_d (j := 3) (by decide) (by decide)]
    by_cases hlen : l.length = 1
    · rw [if_neg (by rw [hlen]; decide)]
      cases hT : D.T with
      | none =>
        rw [hT] at hR
        exact actCrash_state hR hbW s hlen
      | some T =>
        rw [hT] at hR
        obtain ⟨x, rfl⟩ : ∃ x, l = [x] := by
          match l, hlen with
          | [x], _ => exact ⟨x, rfl⟩
        obtain ⟨A', c', e, hi⟩ := hown.form
        injection e with e1 e2 e3
        subst e1
        obtain ⟨g, o, rfl, hc⟩ := hi (by simp [castL])
        have hx := hc 0 _ rfl
        rw [Nat.add_zero] at hx
        rcases Nat.lt_or_ge T.log.length x with hk | hk
        · exact actCrash_far hok hD hR hT hbW s hx hk
        · exact actCrash_near hok hD hR hT hbW s hx hk
    · rw [if_pos hlen]
      exact actCrash_len hR hbW s hlen
  have hk : kindV v.data.toList = none := by unfold kindV; rw [if_neg hvRead, if_neg hvWrite, if_neg hvDrop, if_neg hvCopy]
  have hd : doesV v.data.toList = none := by unfold doesV; rw [if_neg hvReads, if_neg hvWrites, if_neg hvHolds, if_neg hvCrash]
  rw [dAct_no hk hd]
  refine act_none hR hbW s v fun x hx => ?_
  rw [Lib.toList_data]
  simp only [List.mem_cons, List.not_mem_nil, or_false] at hx
  rcases hx with rfl | rfl | rfl | rfl | rfl | rfl | rfl | rfl
  · exact hvRead
  · exact hvWrite
  · exact hvDrop
  · exact hvCopy
  · exact hvReads
  · exact hvWrites
  · exact hvHolds
  · exact hvCrash
end
end Go.Proofs.YtanlmfnhlldkeaaGreatDoor

namespace Go.Proofs.YtanlmfnhlldkeaaGreatDoor
open Go.RowKit
set_option maxRecDepth 100000
set_option linter.unusedVariables false

theorem tOpen_nil (U F : List Int) (m n : Nat) : tOpen U F (tStart m n) [] = (tStart m n, 0, 0) := rfl
section
variable {ok : Nat → Prop} {w : World} {D : DS} {T : TS} {a1 a2 : Option Addr} {c1 c2 m n : Nat} {b1 b2 b3 b4 b5 : Option Addr} {k1 d1 k2 d2 k3 d3 k4 d4 k5 d5 : Nat} {ts : ByteArray} {mn ch : Int}
set_option maxHeartbeats 8000000 in
theorem ansStart_up (hR : RDAt ok w (.agg #[.slice a1 m c1, .slice a2 n c2, .slice b1 k1 d1, .slice b2 k2 d2, .slice b3 k3 d3, .slice b4 k4 d4, .slice b5 k5 d5, .string ts, .int .i64 mn, .int .i64 ch, .bool true]) D) :
    Calls Tryz.prog 46 #[.agg #[.slice a1 m c1, .slice a2 n c2, .slice b1 k1 d1, .slice b2 k2 d2, .slice b3 k3 d3, .slice b4 k4 d4, .slice b5 k5 d5, .string ts, .int .i64 mn, .int .i64 ch, .bool true], .string ⟨#[115, 116, 97, 114, 116]⟩] w fun e w' => RDPost ok w (D, stateL) e w' := by
  obtain ⟨W, hW⟩ : ∃ W, (w.alloc (.cells #[.slice a1 m c1, .slice a2 n c2, .slice b1 k1 d1, .slice b2 k2 d2, .slice b3 k3 d3, .slice b4 k4 d4, .slice b5 k5 d5, .string ts, .int .i64 mn, .int .i64 ch, .bool true] 103)).alloc (.cells #[.slice none 0 0, .slice none 0 0, .slice none 0 0, .slice none 0 0, .slice none 0 0, .slice none 0 0, .slice none 0 0, .string ⟨#[]⟩, .int .i64 0, .int .i64 0, .bool false] 103) = W := ⟨_, rfl⟩
  have hxb : BoxN W w.heap.size 103 #[.slice a1 m c1, .slice a2 n c2, .slice b1 k1 d1, .slice b2 k2 d2, .slice b3 k3 d3, .slice b4 k4 d4, .slice b5 k5 d5, .string ts, .int .i64 mn, .int .i64 ch, .bool true] := by rw [← hW]; exact (BoxN.new _ _ _).alloc _
  have hzb : BoxN W (w.heap.size + 1) 103 #[.slice none 0 0, .slice none 0 0, .slice none 0 0, .slice none 0 0, .slice none 0 0, .slice none 0 0, .slice none 0 0, .string ⟨#[]⟩, .int .i64 0, .int .i64 0, .bool false] := by rw [← hW]; exact BoxN.new' _ _ _ _ (by simp)
  have hbb : Below w.heap.size w W := by rw [← hW]; exact act_boxes (Below.refl _ _) _ _ _
  have Hs := Lib.hid (show W.heap.size = w.heap.size + 2 by rw [← hW]; simp)
  have CC := RCut_any 32 ⟨#[115, 116, 97, 114, 116]⟩ (by decide) W
  rw [show (((32 : UInt8).toNat : Nat) : Int) = 32 from rfl] at CC
  have HCC := Lib.hid CC
  clear CC
  go_enter Tryz.func46, Tryz.ntmps46
  go_wp2_with fail
  try rw [hW]
  clear hW
  with_reducible refine HCC.out.mono ?_
  rintro e w1 ⟨⟨vw, ls, rfl, hown, hls⟩, hb1⟩
  obtain ⟨Aw, cw, rfl, hcw⟩ := hown.form
  have hX1 := hxb.all hb1
  have hZ1 := hzb.all hb1
  have hbw1 := hbb.trans (hb1.mono hbb.size)
  have Hs1 := Lib.hid (show w.heap.size + 2 ≤ w1.heap.size by rw [← Hs.out]; exact hb1.size)
  obtain ⟨⟨x0, x1, x2, x3, x4, x5, x6, x7, x8, x9, x10⟩, fx⟩ := BoxN.st11 hX1
  obtain ⟨⟨z0, z1, z2, z3, z4, z5, z6, z7, z8, z9, z10⟩, f0, f1, f2, f3, f4, f5, f6, f7, f8, f9, f10⟩ := BoxN.st11 hZ1
  have HR := Lib.hid hR
  have HZ1 := Lib.hid hZ1
  have Hbf := Lib.hid (fun y0 y1 y2 y3 y4 y5 y6 y7 y8 y9 y10 => below_put11 hbw1 (g := w.heap.size + 1) (by omega) y0 y1 y2 y3 y4 y5 y6 y7 y8 y9 y10)
  clear hown hls hcw hxb hzb hbb hb1 hX1 hZ1 hbw1 hR fx HCC
  go_wp2_with fail
  refine bodyPost_ret (results_row_tmpD rfl _ _ (w.heap.size + 1) 103 #[.slice a1 m c1, .slice a2 n c2, .slice b1 k1 d1, .slice b2 k2 d2, .slice b3 k3 d3, .slice b4 k4 d4, .slice b5 k5 d5, .string ts, .int .i64 mn, .int .i64 ch, .bool true] (0, 0) _ rfl (HZ1.out.put11 _ _ _ _ _ _ _ _ _ _ _) Tryz.underlying103 rfl (by kernel_rfl)) rfl ?_
  exact ⟨⟨_, rfl, HR.out.below (Hbf.out _ _ _ _ _ _ _ _ _ _ _)⟩, Hbf.out _ _ _ _ _ _ _ _ _ _ _⟩
set_option maxHeartbeats 8000000 in
theorem ansStart_down (hok : ∀ g, w.heap.size ≤ g → ok g) (hD : DOk D) (hT : D.T = none) (hR : RDAt ok w (.agg #[.slice a1 m c1, .slice a2 n c2, .slice b1 k1 d1, .slice b2 k2 d2, .slice b3 k3 d3, .slice b4 k4 d4, .slice b5 k5 d5, .string ts, .int .i64 mn, .int .i64 ch, .bool false]) D) :
    Calls Tryz.prog 46 #[.agg #[.slice a1 m c1, .slice a2 n c2, .slice b1 k1 d1, .slice b2 k2 d2, .slice b3 k3 d3, .slice b4 k4 d4, .slice b5 k5 d5, .string ts, .int .i64 mn, .int .i64 ch, .bool false], .string ⟨#[115, 116, 97, 114, 116]⟩] w fun e w' => RDPost ok w ({ D with T := some (tStart D.m D.n) }, okL) e w' := by
  obtain ⟨⟨hm, hn, -⟩, iU, iF, -⟩ := hR.opened
  obtain ⟨W, hW⟩ : ∃ W, (w.alloc (.cells #[.slice a1 m c1, .slice a2 n c2, .slice b1 k1 d1, .slice b2 k2 d2, .slice b3 k3 d3, .slice b4 k4 d4, .slice b5 k5 d5, .string ts, .int .i64 mn, .int .i64 ch, .bool false] 103)).alloc (.cells #[.slice none 0 0, .slice none 0 0, .slice none 0 0, .slice none 0 0, .slice none 0 0, .slice none 0 0, .slice none 0 0, .string ⟨#[]⟩, .int .i64 0, .int .i64 0, .bool false] 103) = W := ⟨_, rfl⟩
  have hxb : BoxN W w.heap.size 103 #[.slice a1 m c1, .slice a2 n c2, .slice b1 k1 d1, .slice b2 k2 d2, .slice b3 k3 d3, .slice b4 k4 d4, .slice b5 k5 d5, .string ts, .int .i64 mn, .int .i64 ch, .bool false] := by rw [← hW]; exact (BoxN.new _ _ _).alloc _
  have hzb : BoxN W (w.heap.size + 1) 103 #[.slice none 0 0, .slice none 0 0, .slice none 0 0, .slice none 0 0, .slice none 0 0, .slice none 0 0, .slice none 0 0, .string ⟨#[]⟩, .int .i64 0, .int .i64 0, .bool false] := by rw [← hW]; exact BoxN.new' _ _ _ _ (by simp)
  have hbb : Below w.heap.size w W := by rw [← hW]; exact act_boxes (Below.refl _ _) _ _ _
  have Hs := Lib.hid (show W.heap.size = w.heap.size + 2 by rw [← hW]; simp)
  have CC := RCut_any 32 ⟨#[115, 116, 97, 114, 116]⟩ (by decide) W
  rw [show (((32 : UInt8).toNat : Nat) : Int) = 32 from rfl] at CC
  have HCC := Lib.hid CC
  clear CC
  have Hm := Lib.hid hm
  have Hn := Lib.hid hn
  clear hm hn
  go_enter Tryz.func46, Tryz.ntmps46
  go_wp2_with fail
  try rw [hW]
  clear hW
  with_reducible refine HCC.out.mono ?_
  rintro e w1 ⟨⟨vw, ls, rfl, hown, hls⟩, hb1⟩
  obtain ⟨Aw, cw, rfl, hcw⟩ := hown.form
  have hX1 := hxb.all hb1
  have hZ1 := hzb.all hb1
  have hbw1 := hbb.trans (hb1.mono hbb.size)
  have Hs1 := Lib.hid (show w.heap.size + 2 ≤ w1.heap.size by rw [← Hs.out]; exact hb1.size)
  obtain ⟨⟨x0, x1, x2, x3, x4, x5, x6, x7, x8, x9, x10⟩, fx⟩ := BoxN.st11 hX1
  obtain ⟨⟨z0, z1, z2, z3, z4, z5, z6, z7, z8, z9, z10⟩, f0, f1, f2, f3, f4, f5, f6, f7, f8, f9, f10⟩ := BoxN.st11 hZ1
  have CO : Hid (Calls Tryz.prog 63 #[.slice a1 m c1, .slice a2 n c2, .string ⟨#[]⟩] w1 fun e w' => (∃ v', e = .returned (.tuple #[v', .int .i64 0, .int .i64 0]) ∧ RT (fun g => (ok g ∧ g < w.heap.size) ∨ w1.heap.size ≤ g) w' v' D.U D.F (tStart D.m D.n)) ∧ Below w1.heap.size w1 w') := Lib.hid (by
    refine (ROpen_in (ok0 := fun g => (ok g ∧ g < w.heap.size) ∨ w1.heap.size ≤ g) D.U D.F m n (by rw [Hm.out]; exact hD.lU) (by rw [Hn.out]; exact hD.lF) a1 a2 c1 c2 ⟨#[]⟩ (by decide) w1 (iU.1.below hbw1) (iF.1.below hbw1) (by rw [Hm.out]; exact hD.labs.1) (by rw [Hn.out]; exact hD.labs.2) (fun b off e hne => .inl ⟨iU.2 b off e hne, iU.1.has e hne⟩) (fun b off e hne => .inl ⟨iF.2 b off e hne, iF.1.has e hne⟩) (fun b hb => .inr hb)).mono ?_
    rintro e w' ⟨⟨v', h1, h2, -⟩, hb⟩
    rw [Hm.out, Hn.out, show (⟨#[]⟩ : ByteArray).data.toList = [] from rfl, tOpen_nil] at h1 h2
    exact ⟨⟨v', h1, h2 rfl⟩, hb⟩)
  have IU := Lib.hid iU
  have IF := Lib.hid iF
  have HX1 := Lib.hid hX1
  have HZ1 := Lib.hid hZ1
  have Hbw1 := Lib.hid hbw1
  clear hown hls hcw hxb hzb hbb hb1 hX1 hZ1 hbw1 hR hT hD HCC iU iF f0 f1 f2 f3 f4 f5 f6 f7 f8 f9 f10 z0 z1 z2 z3 z4 z5 z6 z7 z8 z9 z10 fx
  go_wp2_with fail
  with_reducible refine CO.out.mono ?_
  rintro e w2 ⟨⟨v', rfl, hR2⟩, hb2⟩
  obtain ⟨s1, s2, s3, s4, s5, q1, e1, q2, e2, q3, e3, q4, e4, q5, e5, us, mu, cu, hv6⟩ := hR2.shape
  subst hv6
  have hba : Below w2.heap.size w2 (w2.alloc (.cells #[.slice s1 q1 e1, .slice s2 q2 e2, .slice s3 q3 e3, .slice s4 q4 e4, .slice s5 q5 e5, .string us, .int .i64 mu, .int .i64 cu] 101)) := (Below.refl _ _).alloc (Nat.le_refl _) _
  have hbn : BoxN (w2.alloc (.cells #[.slice s1 q1 e1, .slice s2 q2 e2, .slice s3 q3 e3, .slice s4 q4 e4, .slice s5 q5 e5, .string us, .int .i64 mu, .int .i64 cu] 101)) w2.heap.size 101 #[.slice s1 q1 e1, .slice s2 q2 e2, .slice s3 q3 e3, .slice s4 q4 e4, .slice s5 q5 e5, .string us, .int .i64 mu, .int .i64 cu] := BoxN.new _ _ _
  have hX2 := (HX1.out.all hb2).all hba
  have hZ2 := (HZ1.out.all hb2).all hba
  have hB2 := (Hbw1.out.trans (hb2.mono Hbw1.out.size)).trans (hba.mono (by have := hb2.size; have := Hs1.out; omega))
  have hR2a := hR2.below hba
  have hlt2 : w.heap.size + 2 ≤ w2.heap.size := Nat.le_trans Hs1.out hb2.size
  have hne2 : ¬ w.heap.size = w2.heap.size := by omega
  obtain ⟨wx, hwx⟩ : ∃ wx, w2.alloc (.cells #[.slice s1 q1 e1, .slice s2 q2 e2, .slice s3 q3 e3, .slice s4 q4 e4, .slice s5 q5 e5, .string us, .int .i64 mu, .int .i64 cu] 101) = wx := ⟨_, rfl⟩
  rw [hwx] at hX2 hZ2 hB2 hR2a hbn
  clear x0 x1 x2 x3 x4 x5 x6 x7 x8 x9 x10
  obtain ⟨⟨x0, x1, x2, x3, x4, x5, x6, x7, x8, x9, x10⟩, f0, f1, f2, f3, f4, f5, f6, f7, f8, f9, f10⟩ := BoxN.st11 hX2
  obtain ⟨⟨y0, y1, y2, y3, y4, y5, y6, y7⟩, -⟩ := BoxN.st8 hbn
  have hs1 := Hs1.out
  have HX9 := Lib.hid (show BoxN (((((((((wx.setCell ⟨w.heap.size, 2, none⟩ (.slice s1 q1 e1)).setCell ⟨w.heap.size, 3, none⟩ (.slice s2 q2 e2)).setCell ⟨w.heap.size, 4, none⟩ (.slice s3 q3 e3)).setCell ⟨w.heap.size, 5, none⟩ (.slice s4 q4 e4)).setCell ⟨w.heap.size, 6, none⟩ (.slice s5 q5 e5)).setCell ⟨w.heap.size, 7, none⟩ (.string us)).setCell ⟨w.heap.size, 8, none⟩ (.int .i64 mu)).setCell ⟨w.heap.size, 9, none⟩ (.int .i64 cu)).setCell ⟨w.heap.size, 10, none⟩ (.bool true)) w.heap.size 103 #[.slice a1 m c1, .slice a2 n c2, .slice s1 q1 e1, .slice s2 q2 e2, .slice s3 q3 e3, .slice s4 q4 e4, .slice s5 q5 e5, .string us, .int .i64 mu, .int .i64 cu, .bool true] by
    have := (hX2.put8k (.slice s1 q1 e1) (.slice s2 q2 e2) (.slice s3 q3 e3) (.slice s4 q4 e4) (.slice s5 q5 e5) (.string us) (.int .i64 mu) (.int .i64 cu)).set 10 (.bool true)
    simp only [List.setIfInBounds_toArray, List.set_cons_succ, List.set_cons_zero] at this
    exact this)
  have hkp : ∀ x, x ≠ w.heap.size → (((((((((wx.setCell ⟨w.heap.size, 2, none⟩ (.slice s1 q1 e1)).setCell ⟨w.heap.size, 3, none⟩ (.slice s2 q2 e2)).setCell ⟨w.heap.size, 4, none⟩ (.slice s3 q3 e3)).setCell ⟨w.heap.size, 5, none⟩ (.slice s4 q4 e4)).setCell ⟨w.heap.size, 6, none⟩ (.slice s5 q5 e5)).setCell ⟨w.heap.size, 7, none⟩ (.string us)).setCell ⟨w.heap.size, 8, none⟩ (.int .i64 mu)).setCell ⟨w.heap.size, 9, none⟩ (.int .i64 cu)).setCell ⟨w.heap.size, 10, none⟩ (.bool true)).heap[x]? = wx.heap[x]? := fun x hx => (Below.heap_setCell ((((((((wx.setCell ⟨w.heap.size, 2, none⟩ (.slice s1 q1 e1)).setCell ⟨w.heap.size, 3, none⟩ (.slice s2 q2 e2)).setCell ⟨w.heap.size, 4, none⟩ (.slice s3 q3 e3)).setCell ⟨w.heap.size, 5, none⟩ (.slice s4 q4 e4)).setCell ⟨w.heap.size, 6, none⟩ (.slice s5 q5 e5)).setCell ⟨w.heap.size, 7, none⟩ (.string us)).setCell ⟨w.heap.size, 8, none⟩ (.int .i64 mu)).setCell ⟨w.heap.size, 9, none⟩ (.int .i64 cu)) ⟨w.heap.size, 10, none⟩ (.bool true) x hx).trans (heap_put8k (V := wx) (g := w.heap.size) (b := x) (.slice s1 q1 e1) (.slice s2 q2 e2) (.slice s3 q3 e3) (.slice s4 q4 e4) (.slice s5 q5 e5) (.string us) (.int .i64 mu) (.int .i64 cu) hx)
  have HZ9 := Lib.hid (show BoxN (((((((((wx.setCell ⟨w.heap.size, 2, none⟩ (.slice s1 q1 e1)).setCell ⟨w.heap.size, 3, none⟩ (.slice s2 q2 e2)).setCell ⟨w.heap.size, 4, none⟩ (.slice s3 q3 e3)).setCell ⟨w.heap.size, 5, none⟩ (.slice s4 q4 e4)).setCell ⟨w.heap.size, 6, none⟩ (.slice s5 q5 e5)).setCell ⟨w.heap.size, 7, none⟩ (.string us)).setCell ⟨w.heap.size, 8, none⟩ (.int .i64 mu)).setCell ⟨w.heap.size, 9, none⟩ (.int .i64 cu)).setCell ⟨w.heap.size, 10, none⟩ (.bool true)) (w.heap.size + 1) 103 #[.slice none 0 0, .slice none 0 0, .slice none 0 0, .slice none 0 0, .slice none 0 0, .slice none 0 0, .slice none 0 0, .string ⟨#[]⟩, .int .i64 0, .int .i64 0, .bool false] from (hkp (w.heap.size + 1) (by omega)).trans hZ2)
  have HR9 := Lib.hid (hR2a.to (ok' := fun g => (ok g ∧ g < w.heap.size) ∨ w1.heap.size ≤ g) (w' := (((((((((wx.setCell ⟨w.heap.size, 2, none⟩ (.slice s1 q1 e1)).setCell ⟨w.heap.size, 3, none⟩ (.slice s2 q2 e2)).setCell ⟨w.heap.size, 4, none⟩ (.slice s3 q3 e3)).setCell ⟨w.heap.size, 5, none⟩ (.slice s4 q4 e4)).setCell ⟨w.heap.size, 6, none⟩ (.slice s5 q5 e5)).setCell ⟨w.heap.size, 7, none⟩ (.string us)).setCell ⟨w.heap.size, 8, none⟩ (.int .i64 mu)).setCell ⟨w.heap.size, 9, none⟩ (.int .i64 cu)).setCell ⟨w.heap.size, 10, none⟩ (.bool true))) (fun x hx _ => hkp x (by have h9 : (ok x ∧ x < w.heap.size) ∨ w1.heap.size ≤ x := hx; rcases h9 with ⟨_, h9⟩ | h9 <;> omega)) (fun _ _ ho => ho))
  have HB9 := Lib.hid ((below_put8k hB2 (Nat.le_refl _) (.slice s1 q1 e1) (.slice s2 q2 e2) (.slice s3 q3 e3) (.slice s4 q4 e4) (.slice s5 q5 e5) (.string us) (.int .i64 mu) (.int .i64 cu)).setCell (p := ⟨w.heap.size, 10, none⟩) (Nat.le_refl _) (.bool true))
  clear hX2 hZ2 hB2 hR2 hR2a hb2 hba hbn hkp CO
  go_wp2_with fail
  try rw [hwx]
  obtain ⟨w9, hw9⟩ : ∃ w9, (((((((((wx.setCell ⟨w.heap.size, 2, none⟩ (.slice s1 q1 e1)).setCell ⟨w.heap.size, 3, none⟩ (.slice s2 q2 e2)).setCell ⟨w.heap.size, 4, none⟩ (.slice s3 q3 e3)).setCell ⟨w.heap.size, 5, none⟩ (.slice s4 q4 e4)).setCell ⟨w.heap.size, 6, none⟩ (.slice s5 q5 e5)).setCell ⟨w.heap.size, 7, none⟩ (.string us)).setCell ⟨w.heap.size, 8, none⟩ (.int .i64 mu)).setCell ⟨w.heap.size, 9, none⟩ (.int .i64 cu)).setCell ⟨w.heap.size, 10, none⟩ (.bool true)) = w9 := ⟨_, rfl⟩
  rw [hw9] at HR9 HX9 HZ9 HB9
  try rw [hw9]
  clear hw9 hwx x0 x1 x2 x3 x4 x5 x6 x7 x8 x9 x10 f0 f1 f2 f3 f4 f5 f6 f7 f8 f9 f10 y0 y1 y2 y3 y4 y5 y6 y7
  obtain ⟨⟨x0, x1, x2, x3, x4, x5, x6, x7, x8, x9, x10⟩, -⟩ := BoxN.st11 HX9.out
  obtain ⟨⟨z0, z1, z2, z3, z4, z5, z6, z7, z8, z9, z10⟩, f0, f1, f2, f3, f4, f5, f6, f7, f8, f9, f10⟩ := BoxN.st11 HZ9.out
  have HC := Lib.hid (show Calls Tryz.prog 64 #[.int .i64 0] w9.drew fun e w' => e = .returned (.string ⟨okL.toArray⟩) ∧ w9.drew = w' from RCalled_any 0 w9.drew)
  have HSt := Lib.hid (fun (y0 y1 y2 y3 y4 y5 y6 y7 y8 y9 y10 : Value) => And.intro (cell_put11 (V := w9) (g := w.heap.size + 1) y0 y1 y2 y3 y4 y5 y6 y7 y8 y9 y10 (by show w.heap.size ≠ _; omega) x0) (And.intro (cell_put11 (V := w9) (g := w.heap.size + 1) y0 y1 y2 y3 y4 y5 y6 y7 y8 y9 y10 (by show w.heap.size ≠ _; omega) x1) (And.intro (cell_put11 (V := w9) (g := w.heap.size + 1) y0 y1 y2 y3 y4 y5 y6 y7 y8 y9 y10 (by show w.heap.size ≠ _; omega) x2) (And.intro (cell_put11 (V := w9) (g := w.heap.size + 1) y0 y1 y2 y3 y4 y5 y6 y7 y8 y9 y10 (by show w.heap.size ≠ _; omega) x3) (And.intro (cell_put11 (V := w9) (g := w.heap.size + 1) y0 y1 y2 y3 y4 y5 y6 y7 y8 y9 y10 (by show w.heap.size ≠ _; omega) x4) (And.intro (cell_put11 (V := w9) (g := w.heap.size + 1) y0 y1 y2 y3 y4 y5 y6 y7 y8 y9 y10 (by show w.heap.size ≠ _; omega) x5) (And.intro (cell_put11 (V := w9) (g := w.heap.size + 1) y0 y1 y2 y3 y4 y5 y6 y7 y8 y9 y10 (by show w.heap.size ≠ _; omega) x6) (And.intro (cell_put11 (V := w9) (g := w.heap.size + 1) y0 y1 y2 y3 y4 y5 y6 y7 y8 y9 y10 (by show w.heap.size ≠ _; omega) x7) (And.intro (cell_put11 (V := w9) (g := w.heap.size + 1) y0 y1 y2 y3 y4 y5 y6 y7 y8 y9 y10 (by show w.heap.size ≠ _; omega) x8) (And.intro (cell_put11 (V := w9) (g := w.heap.size + 1) y0 y1 y2 y3 y4 y5 y6 y7 y8 y9 y10 (by show w.heap.size ≠ _; omega) x9) (cell_put11 (V := w9) (g := w.heap.size + 1) y0 y1 y2 y3 y4 y5 y6 y7 y8 y9 y10 (by show w.heap.size ≠ _; omega) x10)))))))))))
  have HSd := Lib.hid (show w9.drew.cell? ⟨w.heap.size, 0, none⟩ = some (.slice a1 m c1) ∧ w9.drew.cell? ⟨w.heap.size, 1, none⟩ = some (.slice a2 n c2) ∧ w9.drew.cell? ⟨w.heap.size, 2, none⟩ = some (.slice s1 q1 e1) ∧ w9.drew.cell? ⟨w.heap.size, 3, none⟩ = some (.slice s2 q2 e2) ∧ w9.drew.cell? ⟨w.heap.size, 4, none⟩ = some (.slice s3 q3 e3) ∧ w9.drew.cell? ⟨w.heap.size, 5, none⟩ = some (.slice s4 q4 e4) ∧ w9.drew.cell? ⟨w.heap.size, 6, none⟩ = some (.slice s5 q5 e5) ∧ w9.drew.cell? ⟨w.heap.size, 7, none⟩ = some (.string us) ∧ w9.drew.cell? ⟨w.heap.size, 8, none⟩ = some (.int .i64 mu) ∧ w9.drew.cell? ⟨w.heap.size, 9, none⟩ = some (.int .i64 cu) ∧ w9.drew.cell? ⟨w.heap.size, 10, none⟩ = some (.bool true) from ⟨x0, x1, x2, x3, x4, x5, x6, x7, x8, x9, x10⟩)
  have Hbf := Lib.hid (fun y0 y1 y2 y3 y4 y5 y6 y7 y8 y9 y10 => drew_belowD (below_put11 HB9.out (g := w.heap.size + 1) (by omega) y0 y1 y2 y3 y4 y5 y6 y7 y8 y9 y10))
  have HRf := Lib.hid (fun y0 y1 y2 y3 y4 y5 y6 y7 y8 y9 y10 => HR9.out.to (ok' := ok) (w' := (((((((((((w9.setCell ⟨w.heap.size + 1, 0, none⟩ y0).setCell ⟨w.heap.size + 1, 1, none⟩ y1).setCell ⟨w.heap.size + 1, 2, none⟩ y2).setCell ⟨w.heap.size + 1, 3, none⟩ y3).setCell ⟨w.heap.size + 1, 4, none⟩ y4).setCell ⟨w.heap.size + 1, 5, none⟩ y5).setCell ⟨w.heap.size + 1, 6, none⟩ y6).setCell ⟨w.heap.size + 1, 7, none⟩ y7).setCell ⟨w.heap.size + 1, 8, none⟩ y8).setCell ⟨w.heap.size + 1, 9, none⟩ y9).setCell ⟨w.heap.size + 1, 10, none⟩ y10).drew) (fun x hx _ => (congrArg (fun (h : Array Obj) => h[x]?) (drew_heapD _)).trans (heap_put11 (V := w9) (g := w.heap.size + 1) (b := x) y0 y1 y2 y3 y4 y5 y6 y7 y8 y9 y10 (by have h9 : (ok x ∧ x < w.heap.size) ∨ w1.heap.size ≤ x := hx; rcases h9 with ⟨_, h9⟩ | h9 <;> omega))) (fun g _ ho => by rcases ho with ⟨h, _⟩ | h; exact h; exact hok g (by omega)))
  go_region_held3 (fun V => V.cell? ⟨w.heap.size, 0, none⟩ = some (.slice a1 m c1) ∧ V.cell? ⟨w.heap.size, 1, none⟩ = some (.slice a2 n c2) ∧ V.cell? ⟨w.heap.size, 2, none⟩ = some (.slice s1 q1 e1) ∧ V.cell? ⟨w.heap.size, 3, none⟩ = some (.slice s2 q2 e2) ∧ V.cell? ⟨w.heap.size, 4, none⟩ = some (.slice s3 q3 e3) ∧ V.cell? ⟨w.heap.size, 5, none⟩ = some (.slice s4 q4 e4) ∧ V.cell? ⟨w.heap.size, 6, none⟩ = some (.slice s5 q5 e5) ∧ V.cell? ⟨w.heap.size, 7, none⟩ = some (.string us) ∧ V.cell? ⟨w.heap.size, 8, none⟩ = some (.int .i64 mu) ∧ V.cell? ⟨w.heap.size, 9, none⟩ = some (.int .i64 cu) ∧ V.cell? ⟨w.heap.size, 10, none⟩ = some (.bool true))
    ((first | with_reducible exact HSd.out | exact HSt.out _ _ _ _ _ _ _ _ _ _ _))
    ((first
      | (go_at_call 64; with_reducible refine HC.out.mono ?_; rintro e w' ⟨rfl, rfl⟩)
      | fail))
  go_wp2_with fail
  refine bodyPost_ret (results_row_tmpD rfl _ _ (w.heap.size + 1) 103 #[.slice a1 m c1, .slice a2 n c2, .slice s1 q1 e1, .slice s2 q2 e2, .slice s3 q3 e3, .slice s4 q4 e4, .slice s5 q5 e5, .string us, .int .i64 mu, .int .i64 cu, .bool true] (0, 0) _ rfl (drew_boxD (HZ9.out.put11 _ _ _ _ _ _ _ _ _ _ _)) Tryz.underlying103 rfl (by kernel_rfl)) rfl ?_
  exact ⟨⟨_, rfl, ⟨a1, a2, c1, c2, s1, s2, s3, s4, s5, q1, e1, q2, e2, q3, e3, q4, e4, q5, e5, us, mu, cu, by rw [Hm.out, Hn.out]; rfl, IU.out.below (Hbf.out _ _ _ _ _ _ _ _ _ _ _), IF.out.below (Hbf.out _ _ _ _ _ _ _ _ _ _ _), fun T2 h2 => by injection h2 with h2; subst h2; exact HRf.out _ _ _ _ _ _ _ _ _ _ _⟩⟩, Hbf.out _ _ _ _ _ _ _ _ _ _ _⟩
end
end Go.Proofs.YtanlmfnhlldkeaaGreatDoor
