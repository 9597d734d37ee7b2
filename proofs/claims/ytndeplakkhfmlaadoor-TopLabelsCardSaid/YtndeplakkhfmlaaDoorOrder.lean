/-
  Contract: rel.Order.
-/
import Derived.Test.YtndeplakkhfmlaaDoorLoopMarks
import Derived.Test.YtndeplakkhfmlaaDoorBits
import Derived.Test.YtndeplakkhfmlaaDoorRelB
import Derived.Test.YtndeplakkhfmlaaDoorOrderLaw
import Derived.Test.YtndeplakkhfmlaaDoorRound
namespace Go.Proofs.YtndeplakkhfmlaaDoor
open Go.RowKit
attribute [local go_sem] Oper.semAt_some
attribute [local simp, local go_sem] wide_fn
set_option maxRecDepth 100000

set_option maxHeartbeats 4000000 in
theorem Order_ok (r : List Nat) (hlen : r.length ≤ 12) (hb : Bd r.length r) (A : Option Addr) (c : Nat) (w : World) (h : IntsAt w A (castL r)) (hT : Tab w) :
    Calls Tryd.prog 10 #[.slice A r.length c] w fun e w' => e = .returned (.tuple #[.bool (orderB (closed r)), .nilIface]) ∧ Below w.heap.size w w' := by
  refine (callsIn_wide (n := 8)).1 ?_
  have h2 : IntsAt ((w.alloc (.cells #[.bool false] 4)).alloc (.cells #[.nilIface] 24)) A (castL r) := h.below (((Below.refl _ w).alloc (Nat.le_refl _) _).alloc (by simp) _)
  have hch := Check_any (castL r) A c _ h2 (by rw [length_castL]; omega)
  rw [relCode_cast hlen hb, length_castL, show errVal 0 = .nilIface from rfl] at hch
  have Hch := Lib.hid hch
  have Hcl := Lib.hid (closed_all r hlen hb A c _ h2)
  have hcb := Lib.hid (closed_lt r hb)
  have hcn := Lib.hid (length_closed r)
  clear hch h
  have hg := hT.lt
  have hT1 : Tab ((w.alloc (.cells #[.bool false] 4)).alloc (.cells #[.nilIface] 24)) := Tab.next hT (((Below.refl _ w).alloc (Nat.le_refl _) _).alloc (by simp) _)
  generalize closed r = cl at *
  generalize r.length = n at *
  clear h2 hb
  refine callsIn_of_wp_marks Tryd.func10 rfl trivial ?_ rfl
  simp only [Tryd.ntmps10, List.size_toArray, List.length_cons, List.length_nil, Nat.reduceAdd, Nat.reduceSub, Array.replicate_succ, Array.replicate_zero, List.push_toArray, List.append_toArray, List.nil_append, List.cons_append]
  gi_wp2_with fail
  refine (callsIn_wide.2 Hch.out).mono ?_
  rintro e w1 ⟨rfl, rfl⟩
  gi_wp2_with fail
  refine (callsIn_wide.2 Hcl.out).mono ?_
  rintro e w1 ⟨B, c', rfl, hints, hb1⟩
  have hbl : Below w.heap.size w w1 := (((Below.refl _ w).alloc (Nat.le_refl _) _).alloc (by simp) _).trans (hb1.mono (by simp; omega))
  have hT2 : Tab w1 := Tab.below hT1 hb1 (by simp; omega)
  have hz : w.heap.size + 1 < w1.heap.size := by have := hb1.size; simp at this; omega
  have hz0 : w.heap.size < w1.heap.size := by omega
  have hx2' : BoxN w1 w.heap.size 4 #[.bool false] := ((BoxN.new w 4 #[.bool false]).alloc _).below hb1 (by simp; omega)
  have hx3' : BoxN w1 (w.heap.size + 1) 24 #[.nilIface] := BoxN.below (by have := BoxN.new (w.alloc (.cells #[.bool false] 4)) 24 #[.nilIface]; simpa using this) hb1 (by simp)
  clear hT hT1 Hch Hcl hb1
  gi_wp2_with fail
  have hx2 : BoxN (w1.alloc (.cells #[.slice B n c'] 29)) w.heap.size 4 #[.bool false] := hx2'.alloc _
  have hx3 : BoxN (w1.alloc (.cells #[.slice B n c'] 29)) (w.heap.size + 1) 24 #[.nilIface] := hx3'.alloc _
  have hx5 : BoxN (w1.alloc (.cells #[.slice B n c'] 29)) w1.heap.size 29 #[.slice B n c'] := BoxN.new w1 _ _
  have hints3 : IntsAt (w1.alloc (.cells #[.slice B n c'] 29)) B (castL cl) := hints.below ((Below.refl _ w1).alloc (Nat.le_refl _) _)
  have hT3 : Tab (w1.alloc (.cells #[.slice B n c'] 29)) := Tab.next hT2 ((Below.refl _ w1).alloc (Nat.le_refl _) _)
  have hbl3 : Below w.heap.size w (w1.alloc (.cells #[.slice B n c'] 29)) := hbl.alloc (by omega) _
  have hz3 : w1.heap.size < (w1.alloc (.cells #[.slice B n c'] 29)).heap.size := by simp
  clear hx2' hx3' hints hbl hT2
  generalize w1.alloc (.cells #[.slice B n c'] 29) = w3 at *
  refine wpIn_loop_marks (Ds := []) [18, 19, 6, 20, 21, 22, 23, 24, 37, 17]
    (fun v Ds W => ∃ k : Nat, v 17 = .int .i64 k ∧ k ≤ n ∧ Hid (∀ i, i < k → ((bitsOf (row cl i)).all fun j => noRing cl i j) = true) ∧ Below w3.heap.size w3 W ∧ MarksAt w3.heap.size W Ds)
    (fun v _ => n - (intOf (v 17)).toNat) ⟨0, rfl, by omega, fun i hi => by omega, Below.refl _ _, MarksAt.nil⟩ ?_
  rintro us Ds W hus ⟨k, hk, hkn, hall, hbW, hM⟩
  obtain ⟨u0, us0, rfl, hus0⟩ := cons_of_len hus
  obtain ⟨u1, us1, rfl, hus1⟩ := cons_of_len hus0
  obtain ⟨u2, us2, rfl, hus2⟩ := cons_of_len hus1
  obtain ⟨u3, us3, rfl, hus3⟩ := cons_of_len hus2
  obtain ⟨u4, us4, rfl, hus4⟩ := cons_of_len hus3
  obtain ⟨u5, us5, rfl, hus5⟩ := cons_of_len hus4
  obtain ⟨u6, us6, rfl, hus6⟩ := cons_of_len hus5
  obtain ⟨u7, us7, rfl, hus7⟩ := cons_of_len hus6
  obtain ⟨u8, us8, rfl, hus8⟩ := cons_of_len hus7
  obtain ⟨u9, us9, rfl, hus9⟩ := cons_of_len hus8
  obtain rfl : us9 = [] := List.length_eq_zero_iff.1 hus9
  clear hus hus0 hus1 hus2 hus3 hus4 hus5 hus6 hus7 hus8 hus9
  simp only [patchL, List.set_cons_succ, List.set_cons_zero, valL, List.getD_cons_succ, List.getD_cons_zero] at hk ⊢
  subst hk
  have hB2 := hx2.below hbW hx2.lt
  have hB3 := hx3.below hbW hx3.lt
  have hB5 := hx5.below hbW hx5.lt
  have hTW : Tab W := hT3.next hbW
  have hiW := hints3.below hbW
  have hlt5 := hB5.lt
  have hcell5 : W.cell? ⟨w1.heap.size, 0, none⟩ = some (.slice B n c') := hB5.cell rfl
  rcases Nat.lt_or_ge k n with hkn' | hkn'
  · obtain ⟨b, off, x, rfl, hx, hcx⟩ := hiW.at_ (k := k) (by rw [length_castL, hcn.out]; exact hkn')
    obtain rfl := get_castL hx.out
    have hltb : b < W.heap.size := block_lt hcx
    gi_wp2_with fail
    refine (callsIn_wide.2 (Bits_any (row cl k) _)).mono ?_
    rintro e w4 ⟨rfl, rfl⟩
    gi_wp2_with fail
    have hW1 : Below W.heap.size W (W.alloc (.cells #[.int .i64 k] 3)) := (Below.refl _ W).alloc (Nat.le_refl _) _
    have hW2 : Below W.heap.size W ((W.alloc (.cells #[.int .i64 k] 3)).alloc (.cells #[.int .i64 (row cl k)] 3)) := hW1.alloc (by simp) _
    have hTX : Tab ((W.alloc (.cells #[.int .i64 k] 3)).alloc (.cells #[.int .i64 (row cl k)] 3)) := Tab.next hTW hW2
    have hbk : BoxN ((W.alloc (.cells #[.int .i64 k] 3)).alloc (.cells #[.int .i64 (row cl k)] 3)) W.heap.size 3 #[.int .i64 k] := (BoxN.new W _ _).alloc _
    have hbs : BoxN ((W.alloc (.cells #[.int .i64 k] 3)).alloc (.cells #[.int .i64 (row cl k)] 3)) (W.heap.size + 1) 3 #[.int .i64 (row cl k)] := by
      have := BoxN.new (W.alloc (.cells #[.int .i64 k] 3)) 3 #[.int .i64 (row cl k)]
      simpa using this
    have hX2 := hB2.below hW2 hB2.lt
    have hX3 := hB3.below hW2 hB3.lt
    have hX5 := hB5.below hW2 hB5.lt
    have hiX := hiW.below hW2
    have hblX := (hbl3.trans (hbW.mono hbl3.size)).trans (hW2.mono (Nat.le_trans hbl3.size hbW.size))
    have hMX := hM.below hW2
    have hMlt : ∀ D ∈ Ds, D < W.heap.size := fun D hD => hM.lt hD
    have hXsz : ((W.alloc (.cells #[.int .i64 k] 3)).alloc (.cells #[.int .i64 (row cl k)] 3)).heap.size = W.heap.size + 1 + 1 := by simp
    have hbX : Below w3.heap.size w3 ((W.alloc (.cells #[.int .i64 k] 3)).alloc (.cells #[.int .i64 (row cl k)] 3)) := hbW.trans (hW2.mono hbW.size)
    clear hW1 hW2 hcx hcell5 hiW hB2 hB3 hB5 hTW
    generalize (W.alloc (.cells #[.int .i64 k] 3)).alloc (.cells #[.int .i64 (row cl k)] 3) = X at *
    have hsk : row cl k < 2 ^ 12 := Nat.lt_of_lt_of_le (hcb.out k) (Nat.pow_le_pow_right (by decide) hlen)
    refine wp_bits1 (by decide) 7 (B := W.heap.size + 1) (s := row cl k) rfl (hbs.cell rfl) (by omega) hTX
      (fun pre Y => Below X.heap.size X Y ∧ Hid (∀ x, x ∈ pre → noRing cl k x = true))
      (fun cd _ Y => cd = .ret ∧ orderB cl = false ∧ BoxN Y w.heap.size 4 #[.bool false] ∧ BoxN Y (w.heap.size + 1) 24 #[.nilIface] ∧ Below w.heap.size w Y ∧ MarksAt w3.heap.size Y Ds)
      (fun _ _ _ _ hs hg hr => ⟨below_own hs.1 (Nat.le_refl _) (Nat.le_refl _) hg hr, hs.2⟩)
      (fun _ _ _ _ _ hs hg hr => ⟨hs.1, hs.2.1, hs.2.2.1.own hg (fun r e => (hr r e).2), hs.2.2.2.1.own hg (fun r e => (hr r e).2), below_own hs.2.2.2.2.1 (Nat.le_refl _) (by have := hblX.size; omega) hg hr, hs.2.2.2.2.2.own (fun D hD => by have := hMlt D hD; omega) hg hr⟩)
      ⟨Below.refl _ _, fun x hx => by cases hx⟩ ?assign ?body ?done ?stop
    case assign =>
      intro l x Y K hK
      gi_wp2
      exact hK
    case body =>
      rintro l pre x Y hx hlen' ⟨hY, hp⟩
      have hxn : x < n := bit_below (hcb.out k) hx
      have hY2 := hX2.all hY
      have hY3 := hX3.all hY
      have hY5 := hX5.all hY
      have hYk := hbk.all hY
      have hc5 : Y.cell? ⟨w1.heap.size, 0, none⟩ = some (.slice (some ⟨b, off, none⟩) n c') := hY5.cell rfl
      have hck : Y.cell? ⟨W.heap.size, 0, none⟩ = some (.int .i64 k) := hYk.cell rfl
      have f2 := hY2.free 0
      have f3 := hY3.free 0
      have c2 : Y.cell? ⟨w.heap.size, 0, none⟩ = some (.bool false) := hY2.cell rfl
      have c3 : Y.cell? ⟨w.heap.size + 1, 0, none⟩ = some .nilIface := hY3.cell rfl
      simp only [List.setIfInBounds_toArray, List.set_cons_succ, List.set_cons_zero]
      by_cases hkx : x = k
      · subst hkx
        have hp1 : ∀ y, y ∈ pre ++ [x] → noRing cl x y = true := fun y hy => by
          rcases List.mem_append.1 hy with hy | hy
          · exact hp.out y hy
          · obtain rfl := List.mem_singleton.1 hy; unfold noRing; simp
        have Hp := Lib.hid hp1
        clear hp hp1 hx
        gi_wp2_with fail
        refine wpIn_region_quiet_round (F := Fence.wide) rfl (by kernel_rfl) (by kernel_rfl) (by kernel_rfl) ?_
        repeat (gi_big_quiet_step (fail))
        refine wpQuietIn_nil ?_
        rintro _ ⟨nq, rfl⟩
        gi_wp2_with fail
        exact ⟨(keepsOthers_below (below_drewN (Below.refl _ _) nq)).from _, below_drewN (Below.refl _ _) nq, hY.trans (below_drewN (Below.refl _ _) nq), Hp⟩
      · have hne : ((x : Int) != (k : Int)) = true := by simp; omega
        obtain ⟨_, _, y, hA, hy, hcy⟩ := (hiX.below hY).at_ (k := x) (by rw [length_castL, hcn.out]; exact hxn)
        obtain rfl := get_castL hy.out
        injection hA with hA; injection hA with h1 h2; subst h1; subst h2
        have hrx : row cl x < 2 ^ 12 := Nat.lt_of_lt_of_le (hcb.out x) (Nat.pow_le_pow_right (by decide) hlen)
        by_cases hbit : (row cl x).testBit k = true
        · have Hhas := Lib.hid (fun V => Has_is (row cl x) k true V (by omega) (by omega) hbit)
          have Hno : Hid (orderB cl = false) := by
            refine Bool.eq_false_iff.2 fun h => ?_
            unfold orderB at h
            rw [List.all_eq_true] at h
            have h1 := h k (List.mem_range.2 (by rw [hcn.out]; exact hkn'))
            rw [List.all_eq_true] at h1
            have h2 := h1 x ((mem_bitsOf (by omega)).2 hx)
            unfold noRing at h2
            rw [hbit] at h2
            simp at h2
            omega
          clear hx hp hbit
          gi_wp2_with fail
          refine wpIn_region_quiet_round (F := Fence.wide) rfl (by kernel_rfl) (by kernel_rfl) (by kernel_rfl) ?_
          repeat (gi_big_quiet_step ((gi_at_call 39; exact callsIn_wide.2 (quiet1 (Hhas.out _)))))
          refine wpQuietIn_nil ?_
          rintro _ ⟨nq, rfl⟩
          gi_wp2_with fail
          exact ⟨(((keepsOthers_below (below_drewN (Below.refl _ _) nq)).trans (KeepsOthers.setCell _ _ _)).trans (KeepsOthers.setCell _ _ _)).from _, rfl, Hno.out,
            ((hY2.drewN nq).set 0 (.bool false)).other (a := ⟨w.heap.size + 1, 0, none⟩) (by simp) .nilIface, ((hY3.drewN nq).other (a := ⟨w.heap.size, 0, none⟩) (by simp) (.bool false)).set 0 .nilIface,
            ((below_drewN (hblX.trans (hY.mono hblX.size)) nq).setCell (by simp) _).setCell (by simp) _, (((hMX.below hY).below (below_drewN (Below.refl _ _) nq)).setCell _ _).setCell _ _⟩
        · have Hhas := Lib.hid (fun V => Has_is (row cl x) k false V (by omega) (by omega) (by simpa using hbit))
          have hp1 : ∀ y, y ∈ pre ++ [x] → noRing cl k y = true := fun y hy => by
            rcases List.mem_append.1 hy with hy | hy
            · exact hp.out y hy
            · obtain rfl := List.mem_singleton.1 hy; unfold noRing; simp [hbit]
          have Hp := Lib.hid hp1
          clear hx hp hbit hp1
          gi_wp2_with fail
          refine wpIn_region_quiet_round (F := Fence.wide) rfl (by kernel_rfl) (by kernel_rfl) (by kernel_rfl) ?_
          repeat (gi_big_quiet_step ((gi_at_call 39; exact callsIn_wide.2 (quiet1 (Hhas.out _)))))
          refine wpQuietIn_nil ?_
          rintro _ ⟨nq, rfl⟩
          gi_wp2_with fail
          exact ⟨(keepsOthers_below (below_drewN (Below.refl _ _) nq)).from _, below_drewN (Below.refl _ _) nq, hY.trans (below_drewN (Below.refl _ _) nq), Hp⟩
    case done =>
      rintro D Z hD ⟨hZ, hp⟩ hK
      have Hp := Lib.hid (fun (i : Nat) (hi : i < k + 1) => show ((bitsOf (row cl i)).all fun j => noRing cl i j) = true from by
        rcases Nat.lt_or_ge i k with h | h
        · exact hall.out i h
        · obtain rfl : i = k := by omega
          rw [List.all_eq_true]; exact hp.out)
      clear hall hp
      gi_wp2_with fail
      have hbZ := hbX.trans (hZ.mono hbX.size)
      exact ⟨_, D :: Ds, rfl, rfl, ⟨k + 1, by simp [valL], by omega, Hp, hbZ, (hMX.below hZ).cons (by have := hbX.size; omega) (fun h => by have := hMlt D h; omega) hK⟩, by simp [valL, intOf]; omega⟩
    case stop =>
      rintro D cd pre Z hD _ ⟨rfl, hord, b2, b3, hblZ, hMZ⟩ hK
      gi_wp2_with fail
      rw [hord]
      refine leaves_marks (B := w3.heap.size) (D :: Ds) Z (hMZ.cons (by have := hbX.size; omega) (fun h => by have := hMlt D h; omega) hK) fun w' hsc hb' _ => ?_
      have d2 : w'.cell? ⟨w.heap.size, 0, none⟩ = some (.bool false) := (hsc.cell _).trans (b2.cell rfl)
      have d3 : w'.cell? ⟨w.heap.size + 1, 0, none⟩ = some .nilIface := (hsc.cell _).trans (b3.cell rfl)
      refine ⟨.tuple #[.bool false, .nilIface], by simp [results, Tryd.f10, go_sem, d2, d3], rfl, hblZ.trans (hb'.mono hbl3.size)⟩
  · obtain rfl : k = n := by omega
    have f2 := hB2.free 0
    have f3 := hB3.free 0
    have c2 : W.cell? ⟨w.heap.size, 0, none⟩ = some (.bool false) := hB2.cell rfl
    have c3 : W.cell? ⟨w.heap.size + 1, 0, none⟩ = some .nilIface := hB3.cell rfl
    gi_wp2_with fail
    have hord : orderB cl = true := by
      unfold orderB
      rw [List.all_eq_true]
      intro i hi
      exact hall.out i (by have := List.mem_range.1 hi; rw [hcn.out] at this; exact this)
    rw [hord]
    refine leaves_marks (B := w3.heap.size) Ds _ ((hM.setCell _ _).setCell _ _) fun w' hsc hb' _ => ?_
    have g2 := (hB2.set 0 (.bool true)).other (a := ⟨w.heap.size + 1, 0, none⟩) (by simp) .nilIface
    have g3 := (hB3.other (a := ⟨w.heap.size, 0, none⟩) (by simp) (.bool true)).set 0 .nilIface
    have d2 : w'.cell? ⟨w.heap.size, 0, none⟩ = some (.bool true) := (hsc.cell _).trans (g2.cell rfl)
    have d3 : w'.cell? ⟨w.heap.size + 1, 0, none⟩ = some .nilIface := (hsc.cell _).trans (g3.cell rfl)
    refine ⟨.tuple #[.bool true, .nilIface], by simp [results, Tryd.f10, go_sem, d2, d3], rfl, ?_⟩
    exact (((hbl3.trans (hbW.mono hbl3.size)).setCell (by simp) _).setCell (by simp) _).trans (hb'.mono hbl3.size)
theorem Order_bad (l : List Int) (A : Option Addr) (c : Nat) (w : World) (h : IntsAt w A l) (hl : l.length < 2 ^ 60) (hbad : relCode l ≠ 0) :
    Calls Tryd.prog 10 #[.slice A l.length c] w fun e w' => e = .returned (.tuple #[.bool false, .iface 69 (.int .i64 (relCode l))]) ∧ Below w.heap.size w w' := by
  have h2 : IntsAt ((w.alloc (.cells #[.bool false] 4)).alloc (.cells #[.nilIface] 24)) A l := h.below (((Below.refl _ w).alloc (Nat.le_refl _) _).alloc (by simp) _)
  have hch := Check_any l A c _ h2 hl
  rw [errVal, if_neg hbad] at hch
  have Hch := Lib.hid hch
  clear hch h hbad h2
  generalize l.length = n at *
  generalize relCode l = m at *
  go_enter Tryd.func10, Tryd.ntmps10
  go_wp2_with (go_at_call 30; refine Hch.out.mono ?_; rintro e w' ⟨rfl, rfl⟩)
  refine bodyPost_ret (v := .tuple #[.bool false, .iface 69 (.int .i64 m)]) (by simp [results, Tryd.f10, go_sem]) rfl ⟨rfl, ?_⟩
  exact ((Below.refl _ w).alloc (Nat.le_refl _) _).alloc (by simp) _
end Go.Proofs.YtndeplakkhfmlaaDoor
